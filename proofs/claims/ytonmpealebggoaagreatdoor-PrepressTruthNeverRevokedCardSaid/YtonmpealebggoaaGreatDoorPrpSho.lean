/- How long a condition's text is; two strings put together, as the walks ask it. A region that draws its order, whose callees may lay blocks: one walk in the order of the text, in the class of the worlds that are as W below its end. No program is in sight here. The walk of show: a condition's text. -/
import Derived.Test.YtonmpealebggoaaGreatDoorPrpLvl
import Derived.Lib.ItoaLen
import Derived.Deep.QuietTactic
namespace Go.Proofs.YtonmpealebggoaaGreatDoor
open Go.RowKit Pr
theorem bs_app (a b : Src) : Bs a ++ Bs b = Bs (a ++ b) := by
  apply ByteArray.ext; simp [ByteArray.data_append]
theorem cat_run {P : Program} (a b : Src) (h : a.length + b.length ≤ 9223372036854775807) (w : World) : (Op.stringOp .add (Bs a) (Bs b)).run P w = .ok (.string (Bs (a ++ b))) w := by
  rw [← bs_app]; exact run_string_add_sum w (Bs a) (Bs b) (by simpa [ByteArray.size] using h)
theorem itoa_short (n : Int) (h : n.natAbs ≤ 9999999999) : (Lib.itoa n).length ≤ 21 := Lib.itoa_length_le n (by omega) (by omega)
theorem name_short {s : Src} (h : plainB s = true) : s.length ≤ 16 := by
  cases s with
  | nil => simp
  | cons c r => simp only [plainB, Bool.and_eq_true, decide_eq_true_eq] at h; exact h.1.2
theorem term_short (i : Nat) {t : Tm} (h : TmOk t) : (termS i t).length ≤ 41 := by
  have h1 := name_short h.nm
  have h2 := itoa_short t.1.natAbs (by have := h.lo; have := h.hi; omega)
  unfold termS
  have e1 : (if 0 < i then (if t.1 < 0 then [32, 45, 32] else [32, 43, 32]) else if t.1 < 0 then [45] else [] : Src).length ≤ 3 := by split <;> split <;> simp
  have e2 : (if t.1.natAbs ≠ 1 then Lib.itoa (t.1.natAbs : Int) ++ [32] else [] : Src).length ≤ 22 := by split <;> simp; omega
  simp only [List.length_append]
  omega
theorem terms_short : ∀ (l : List Tm) (i : Nat), (∀ t ∈ l, TmOk t) → (termsS i l).length ≤ 41 * l.length
  | [], _, _ => by simp [termsS]
  | t :: r, i, h => by
    have h1 := term_short i (h t (by simp))
    have h2 := terms_short r (i + 1) fun x hx => h x (by simp [hx])
    simp only [termsS, List.length_append, List.length_cons]
    omega
theorem op_short (c : Int) : (opS c).length ≤ 2 := by
  unfold opS
  repeat' split
  all_goals simp
theorem show_len : ∀ (f : Nat) (c : Cd) (least : Nat), VC f c → (showF f c least).length + 10 ≤ 500 * 2 ^ f
  | 0, c, least, h => absurd h (by simp [VC])
  | f + 1, c, least, h => by
    have hb : (bareS f c).length + 12 ≤ 500 * 2 ^ (f + 1) := by
      have hp : 1 ≤ 2 ^ f := Nat.one_le_two_pow
      rw [Nat.pow_succ]
      rcases h with ⟨hk, he⟩ | ⟨hk, a, rfl, ha⟩ | ⟨hk, a, b, hc, ha, hb⟩
      · obtain ⟨_, _, _, _, t1, t2, ht, hl⟩ := compare_parts he
        have h1 := terms_short c.terms 0 ht
        have h2 := itoa_short c.than (by omega)
        have h3 := op_short c.cmp
        unfold bareS
        rw [if_pos hk]
        simp only [cmpS, List.length_append, List.length_cons, List.length_nil]
        omega
      · have h1 := show_len f a 3 ha
        have : bareS f (.mk 1 [] 0 0 [a]) = wNot ++ [32] ++ showF f a 3 := rfl
        rw [this]
        simp only [wNot, List.length_append, List.length_cons, List.length_nil]
        omega
      · generalize c.kind = k at *
        subst hc
        rcases hk with rfl | rfl
        · have h1 := show_len f a 2 ha
          have h2 := show_len f b 3 hb
          have : bareS f (.mk 2 [] 0 0 [a, b]) = showF f a 2 ++ ([32] ++ wAnd ++ [32]) ++ showF f b 3 := rfl
          rw [this]
          simp only [wAnd, List.length_append, List.length_cons, List.length_nil]
          omega
        · have h1 := show_len f a 1 ha
          have h2 := show_len f b 2 hb
          have : bareS f (.mk 3 [] 0 0 [a, b]) = showF f a 1 ++ ([32] ++ wOr ++ [32]) ++ showF f b 2 := rfl
          rw [this]
          simp only [wOr, List.length_append, List.length_cons, List.length_nil]
          omega
    rw [show_bare]
    split
    · simp only [List.length_append, List.length_cons, List.length_nil]; omega
    · omega
end Go.Proofs.YtonmpealebggoaaGreatDoor
namespace Go.Proofs.YtonmpealebggoaaGreatDoor
open Go.RowKit
/-- A world that is as W below W's end. -/
structure Bel (W : World) where
  w : World
  h : Below W.heap.size W w
theorem bel_some (W : World) : Nonempty (Bel W) := ⟨⟨W, Below.refl _ _⟩⟩
theorem wp_region_bel {P : Program} (W : World) {id : Nat} {Q : Exit → Act → World → Prop} {a : Act} {w : World} {l : List Oper} (hm : P.follows .mixedOrders = true) (hB : Region.lexB .any l.toArray = true) (h0 : Below W.heap.size W w.drew)
    (h : wpQuiet P l.toArray (fun w' => ∃ p : Bel W, w' = p.w) (fun a' => ∀ w', (∃ p : Bel W, w' = p.w) → Q .normal a' w') l a) : (Code.region id l.toArray true).wp P Q a w :=
  wp_region_quiet (C := fun w' => ∃ p : Bel W, w' = p.w) hm hB ⟨⟨w.drew, h0⟩, rfl⟩ (by simpa using h)
theorem bel_call {P : Program} {W : World} {f : FuncId} {args : Array Value} {v : Value} (H : ∀ W', Below W.heap.size W W' → Calls P f args W' fun e w' => e = .returned v ∧ Below W'.heap.size W' w') (p : Bel W) :
    Calls P f args p.w fun e w'' => e = .returned v ∧ ∃ p' : Bel W, w'' = p'.w :=
  (H p.w p.h).mono fun _ w' ⟨a, b⟩ => ⟨a, ⟨w', p.h.trans (b.mono p.h.size)⟩, rfl⟩
theorem bel_cell {W : World} {a : Addr} {v : Value} (hl : a.block < W.heap.size) (h : W.cell? a = some v) (p : Bel W) : p.w.cell? a = some v := (p.h.cell hl).trans h
end Go.Proofs.YtonmpealebggoaaGreatDoor
namespace Go.Proofs.YtonmpealebggoaaGreatDoor
open Go.RowKit Pr
theorem kid_cells {P : Nat → Prop} {w : World} {dv : Value} {kids : List Cd} {vs : List V5} (hd : SlM w P dv kids.length (v5cs vs)) (hl : vs.length = kids.length)
    (hkid : ∀ j (h : j < kids.length) (h2 : j < vs.length), CdV P w vs[j] kids[j]) (h0 : 0 < kids.length) : ∃ b off cap, dv = .slice (some ⟨b, off, none⟩) kids.length cap ∧ b < w.heap.size ∧
    ∀ j, j < kids.length → ∃ A2 c2 A3 c3, w.cell? ⟨b, off + j * 5, none⟩ = some (.int .i64 (kids.getD j cd0).kind) ∧ w.cell? ⟨b, off + j * 5 + 1, none⟩ = some (.slice A2 (kids.getD j cd0).terms.length c2) ∧
      w.cell? ⟨b, off + j * 5 + 2, none⟩ = some (.int .i64 (kids.getD j cd0).cmp) ∧ w.cell? ⟨b, off + j * 5 + 3, none⟩ = some (.int .i64 (kids.getD j cd0).than) ∧ w.cell? ⟨b, off + j * 5 + 4, none⟩ = some (.slice A3 (kids.getD j cd0).kids.length c3) ∧
      CdV P w ⟨.int .i64 (kids.getD j cd0).kind, .slice A2 (kids.getD j cd0).terms.length c2, .int .i64 (kids.getD j cd0).cmp, .int .i64 (kids.getD j cd0).than, .slice A3 (kids.getD j cd0).kids.length c3⟩ (kids.getD j cd0) := by
  obtain ⟨A, cap, rfl⟩ := hd.form
  obtain ⟨b, off, rfl, -, hbl, hcl⟩ := v5_at (l := vs) (by rw [hl]; exact hd) (by omega)
  refine ⟨b, off, cap, rfl, hbl, fun j hj => ?_⟩
  obtain ⟨q0, q1, q2, q3, q4⟩ := hcl j (by omega)
  have hvd : vs[j]'(by omega) = vs.getD j v50 := by rw [List.getD_eq_getElem?_getD, List.getElem?_eq_getElem (by omega)]; rfl
  rw [hvd] at q0 q1 q2 q3 q4
  have hk := kid_at hl hkid j hj
  generalize vs.getD j v50 = u at *
  obtain ⟨tv2, dv2, vs2, rfl, ht2, hd2, -⟩ := hk.open_
  obtain ⟨A2, cp2, rfl⟩ := ht2.form
  obtain ⟨A3, cp3, rfl⟩ := hd2.form
  exact ⟨A2, cp2, A3, cp3, q0, q1, q2, q3, q4, hk⟩
theorem paren_bs (x : Src) : ({ data := #[40] } : ByteArray) ++ Bs x ++ { data := #[41] } = Bs ([40] ++ x ++ [41]) := by
  rw [show ({ data := #[40] } : ByteArray) = Bs [40] from rfl, show ({ data := #[41] } : ByteArray) = Bs [41] from rfl, bs_app, bs_app]
def ShowAt (f : Nat) : Prop := ∀ (o : Cd) (v : V5) (P : Nat → Prop) (least : Nat) (w : World), CdV P w v o → VC f o → Tabs w →
    Calls Tryz.prog 50 #[v.val, .int .i64 (least : Int)] w fun e w' => e = .returned (.string (Bs (showF f o least))) ∧ Below w.heap.size w w'
set_option maxRecDepth 100000 in
set_option maxHeartbeats 4000000 in
theorem show_not (f : Nat) (hf : f ≤ 13) (IH : ShowAt f) (a : Cd) (v : V5) (P : Nat → Prop) (least : Nat) (w : World) (h : CdV P w v (.mk 1 [] 0 0 [a])) (hv : VC f a) (hT : Tabs w) :
    Calls Tryz.prog 50 #[v.val, .int .i64 (least : Int)] w fun e w' => e = .returned (.string (Bs (showF (f + 1) (.mk 1 [] 0 0 [a]) least))) ∧ Below w.heap.size w w' := by
  obtain ⟨tv, dv, vs, rfl, ht, hd, hvl, hkid, -, -⟩ := h.open_
  dsimp only [Cd.kind, Cd.terms, Cd.cmp, Cd.than, Cd.kids, V5.val] at *
  obtain ⟨tA, tc, rfl⟩ := ht.form
  obtain ⟨b, off, cap, rfl, hbl, hcl⟩ := kid_cells hd hvl hkid (by simp)
  obtain ⟨A2, c2, A3, c3, q0, q1, q2, q3, q4, hk⟩ := hcl 0 (by simp)
  have e0 : [a].getD 0 cd0 = a := rfl
  rw [e0] at q0 q1 q2 q3 q4 hk
  simp only [Nat.zero_mul, Nat.add_zero, List.length_cons, List.length_nil, Nat.zero_add] at *
  have HB0 := Lib.hid ((Below.refl w.heap.size w).alloc (Nat.le_refl _) (.cells #[Value.int .i64 1, Value.slice tA 0 tc, Value.int .i64 0, Value.int .i64 0, Value.slice (some ⟨b, off, none⟩) 1 cap] 25))
  have HC := Lib.hid (IH a _ P 3 (w.alloc (.cells #[Value.int .i64 1, Value.slice tA 0 tc, Value.int .i64 0, Value.int .i64 0, Value.slice (some ⟨b, off, none⟩) 1 cap] 25)) (hk.alloc _) hv (hT.later ((Below.refl _ _).alloc (Nat.le_refl _) _)))
  unfold V5.val at HC
  dsimp only at HC
  rw [show ((3 : Nat) : Int) = 3 from rfl] at HC
  have hs := show_bare f (.mk 1 [] 0 0 [a]) least
  have hbare : bareS f (.mk 1 [] 0 0 [a]) = [110, 111, 116, 32] ++ showF f a 3 := rfl
  have hSl : (showF f a 3).length ≤ 4096000 := Nat.le_trans (by have := show_len f a 3 hv; omega) (Nat.mul_le_mul_left 500 (Nat.pow_le_pow_right (by omega) hf : 2 ^ f ≤ 2 ^ 13))
  rw [hbare] at hs
  generalize showF (f + 1) (.mk 1 [] 0 0 [a]) least = E at *
  generalize showF f a 3 = S at *
  have k1 := fun w => cat_run (P := Tryz.prog) [110, 111, 116, 32] S (by simp; omega) w
  have HL := Lib.hid (fun W => level_any 1 (by omega) (by omega) W)
  have hbox := World.cell?_alloc_at (w := w) #[Value.int .i64 1, Value.slice tA 0 tc, Value.int .i64 0, Value.int .i64 0, Value.slice (some ⟨b, off, none⟩) 1 cap] 25 w.heap.size 0 rfl
  clear e0 hk hkid hcl hd ht hv h IH hT hbare
  generalize a.kind = x0 at *
  generalize a.terms.length = x1 at *
  generalize a.cmp = x2 at *
  generalize a.than = x3 at *
  generalize a.kids.length = x4 at *
  go_enter Tryz.func50, Tryz.ntmps50
  go_wp2_with fail
  refine HC.out.mono ?_; rintro e w2 ⟨rfl, hb2⟩
  have HB2 := Lib.hid (HB0.out.trans (hb2.mono HB0.out.size))
  have hbox2 := (hb2.cell (p := ⟨w.heap.size, 0, none⟩) (by simp)).trans hbox
  clear hb2
  by_cases hp : lev 1 < least
  · have hd1 : decide (((lev 1 : Nat) : Int) < (least : Int)) = true := by simp; omega
    have HE := Lib.hid (show E = [40] ++ ([110, 111, 116, 32] ++ S) ++ [41] from hs.trans (if_pos hp))
    go_wp2_with fail
    refine (HL.out _).mono ?_; rintro e w3 ⟨rfl, hb3⟩
    have HB3 := Lib.hid (HB2.out.trans (hb3.mono HB2.out.size))
    clear hb3
    go_wp2_with fail
    go_ret
    exact ⟨congrArg (fun x => Ending.returned (Value.string x)) (show ({ data := #[40] } : ByteArray) ++ Bs ([110, 111, 116, 32] ++ S) ++ { data := #[41] } = Bs E by rw [HE.out]; exact paren_bs _), HB3.out⟩
  · have hd1 : decide (((lev 1 : Nat) : Int) < (least : Int)) = false := by simp; omega
    have HE := Lib.hid (show E = [110, 111, 116, 32] ++ S from hs.trans (if_neg hp))
    go_wp2_with fail
    refine (HL.out _).mono ?_; rintro e w3 ⟨rfl, hb3⟩
    have HB3 := Lib.hid (HB2.out.trans (hb3.mono HB2.out.size))
    clear hb3
    go_wp2_with fail
    go_ret
    exact ⟨by rw [HE.out]; rfl, HB3.out⟩
set_option maxRecDepth 100000 in
set_option maxHeartbeats 4000000 in
theorem show_and (f : Nat) (hf : f ≤ 13) (IH : ShowAt f) (a d : Cd) (v : V5) (P : Nat → Prop) (least : Nat) (w : World) (h : CdV P w v (.mk 2 [] 0 0 [a, d])) (hv : VC f a) (hv2 : VC f d) (hT : Tabs w) :
    Calls Tryz.prog 50 #[v.val, .int .i64 (least : Int)] w fun e w' => e = .returned (.string (Bs (showF (f + 1) (.mk 2 [] 0 0 [a, d]) least))) ∧ Below w.heap.size w w' := by
  obtain ⟨tv, dv, vs, rfl, ht, hd, hvl, hkid, -, -⟩ := h.open_
  dsimp only [Cd.kind, Cd.terms, Cd.cmp, Cd.than, Cd.kids, V5.val] at *
  obtain ⟨tA, tc, rfl⟩ := ht.form
  obtain ⟨b, off, cap, rfl, hbl, hcl⟩ := kid_cells hd hvl hkid (by simp)
  obtain ⟨A2, c2, A3, c3, q0, q1, q2, q3, q4, hk⟩ := hcl 0 (by simp)
  obtain ⟨A4, c4, A5, c5, p0, p1, p2, p3, p4, hk2⟩ := hcl 1 (by simp)
  have e0 : [a, d].getD 0 cd0 = a := rfl
  have e1 : [a, d].getD 1 cd0 = d := rfl
  rw [e0] at q0 q1 q2 q3 q4 hk
  rw [e1] at p0 p1 p2 p3 p4 hk2
  simp only [Nat.zero_mul, Nat.one_mul, Nat.add_zero, List.length_cons, List.length_nil, Nat.zero_add, Nat.reduceAdd] at *
  have HB0 := Lib.hid ((Below.refl w.heap.size w).alloc (Nat.le_refl _) (.cells #[Value.int .i64 2, Value.slice tA 0 tc, Value.int .i64 0, Value.int .i64 0, Value.slice (some ⟨b, off, none⟩) 2 cap] 25))
  have HCa := Lib.hid (fun W (hb : Below (w.alloc (.cells #[Value.int .i64 2, Value.slice tA 0 tc, Value.int .i64 0, Value.int .i64 0, Value.slice (some ⟨b, off, none⟩) 2 cap] 25)).heap.size (w.alloc (.cells #[Value.int .i64 2, Value.slice tA 0 tc, Value.int .i64 0, Value.int .i64 0, Value.slice (some ⟨b, off, none⟩) 2 cap] 25)) W) => (by have := IH a _ P 2 W (hk.later (HB0.out.trans (hb.mono HB0.out.size))) hv (hT.later (HB0.out.trans (hb.mono HB0.out.size))); rwa [show ((2 : Nat) : Int) = 2 from rfl] at this : Calls Tryz.prog 50 #[_, .int .i64 2] W _))
  have HCd := Lib.hid (fun W (hb : Below (w.alloc (.cells #[Value.int .i64 2, Value.slice tA 0 tc, Value.int .i64 0, Value.int .i64 0, Value.slice (some ⟨b, off, none⟩) 2 cap] 25)).heap.size (w.alloc (.cells #[Value.int .i64 2, Value.slice tA 0 tc, Value.int .i64 0, Value.int .i64 0, Value.slice (some ⟨b, off, none⟩) 2 cap] 25)) W) => (by have := IH d _ P 3 W (hk2.later (HB0.out.trans (hb.mono HB0.out.size))) hv2 (hT.later (HB0.out.trans (hb.mono HB0.out.size))); rwa [show ((3 : Nat) : Int) = 3 from rfl] at this : Calls Tryz.prog 50 #[_, .int .i64 3] W _))
  unfold V5.val at HCa HCd
  dsimp only at HCa HCd
  have hs := show_bare f (.mk 2 [] 0 0 [a, d]) least
  have hbare : bareS f (.mk 2 [] 0 0 [a, d]) = showF f a 2 ++ 32 :: 97 :: 110 :: 100 :: 32 :: showF f d 3 := by
    show showF f a 2 ++ ([32] ++ wAnd ++ [32]) ++ showF f d 3 = _
    simp [wAnd]
  have hp13 : 500 * 2 ^ f ≤ 4096000 := (Nat.mul_le_mul_left 500 (Nat.pow_le_pow_right (by omega) hf : 2 ^ f ≤ 2 ^ 13))
  have hSl : (showF f a 2).length ≤ 4096000 := Nat.le_trans (by have := show_len f a 2 hv; omega) hp13
  have hSl2 : (showF f d 3).length ≤ 4096000 := Nat.le_trans (by have := show_len f d 3 hv2; omega) hp13
  clear hp13
  rw [hbare] at hs
  generalize showF (f + 1) (.mk 2 [] 0 0 [a, d]) least = E at *
  generalize showF f a 2 = S at *
  generalize showF f d 3 = S2 at *
  have k1 := fun w => cat_run (P := Tryz.prog) S [32, 97, 110, 100, 32] (by simp; omega) w
  have k2 := fun w => cat_run (P := Tryz.prog) (S ++ [32, 97, 110, 100, 32]) S2 (by simp; omega) w
  have HL := Lib.hid (fun W => level_any 2 (by omega) (by omega) W)
  have HBox := Lib.hid (fun j => World.cell?_alloc_at (w := w) #[Value.int .i64 2, Value.slice tA 0 tc, Value.int .i64 0, Value.int .i64 0, Value.slice (some ⟨b, off, none⟩) 2 cap] 25 w.heap.size j rfl)
  have hbox := HBox.out 0
  have hsz : (w.alloc (.cells #[Value.int .i64 2, Value.slice tA 0 tc, Value.int .i64 0, Value.int .i64 0, Value.slice (some ⟨b, off, none⟩) 2 cap] 25)).heap.size = w.heap.size + 1 := by simp
  have hW : ∀ x j, w.cell? ⟨b, x, none⟩ = some j → (w.alloc (.cells #[Value.int .i64 2, Value.slice tA 0 tc, Value.int .i64 0, Value.int .i64 0, Value.slice (some ⟨b, off, none⟩) 2 cap] 25)).cell? ⟨b, x, none⟩ = some j := fun x j h => (World.cell?_alloc_lt _ _ ⟨b, x, none⟩ hbl).trans h
  have hbl1 : b < (w.alloc (.cells #[Value.int .i64 2, Value.slice tA 0 tc, Value.int .i64 0, Value.int .i64 0, Value.slice (some ⟨b, off, none⟩) 2 cap] 25)).heap.size := by rw [hsz]; omega
  have g4 := fun p : Bel (w.alloc (.cells #[Value.int .i64 2, Value.slice tA 0 tc, Value.int .i64 0, Value.int .i64 0, Value.slice (some ⟨b, off, none⟩) 2 cap] 25)) => bel_cell (a := ⟨w.heap.size, 4, none⟩) (by rw [hsz]; exact Nat.lt_succ_self _) (HBox.out 4) p
  have g0 := fun p : Bel (w.alloc (.cells #[Value.int .i64 2, Value.slice tA 0 tc, Value.int .i64 0, Value.int .i64 0, Value.slice (some ⟨b, off, none⟩) 2 cap] 25)) => bel_cell (a := ⟨w.heap.size, 0, none⟩) (by rw [hsz]; exact Nat.lt_succ_self _) (HBox.out 0) p
  have q0' := fun p : Bel (w.alloc (.cells #[Value.int .i64 2, Value.slice tA 0 tc, Value.int .i64 0, Value.int .i64 0, Value.slice (some ⟨b, off, none⟩) 2 cap] 25)) => bel_cell hbl1 (hW _ _ q0) p
  have q1' := fun p : Bel (w.alloc (.cells #[Value.int .i64 2, Value.slice tA 0 tc, Value.int .i64 0, Value.int .i64 0, Value.slice (some ⟨b, off, none⟩) 2 cap] 25)) => bel_cell hbl1 (hW _ _ q1) p
  have q2' := fun p : Bel (w.alloc (.cells #[Value.int .i64 2, Value.slice tA 0 tc, Value.int .i64 0, Value.int .i64 0, Value.slice (some ⟨b, off, none⟩) 2 cap] 25)) => bel_cell hbl1 (hW _ _ q2) p
  have q3' := fun p : Bel (w.alloc (.cells #[Value.int .i64 2, Value.slice tA 0 tc, Value.int .i64 0, Value.int .i64 0, Value.slice (some ⟨b, off, none⟩) 2 cap] 25)) => bel_cell hbl1 (hW _ _ q3) p
  have q4' := fun p : Bel (w.alloc (.cells #[Value.int .i64 2, Value.slice tA 0 tc, Value.int .i64 0, Value.int .i64 0, Value.slice (some ⟨b, off, none⟩) 2 cap] 25)) => bel_cell hbl1 (hW _ _ q4) p
  have p0' := fun p : Bel (w.alloc (.cells #[Value.int .i64 2, Value.slice tA 0 tc, Value.int .i64 0, Value.int .i64 0, Value.slice (some ⟨b, off, none⟩) 2 cap] 25)) => bel_cell hbl1 (hW _ _ p0) p
  have p1' := fun p : Bel (w.alloc (.cells #[Value.int .i64 2, Value.slice tA 0 tc, Value.int .i64 0, Value.int .i64 0, Value.slice (some ⟨b, off, none⟩) 2 cap] 25)) => bel_cell hbl1 (hW _ _ p1) p
  have p2' := fun p : Bel (w.alloc (.cells #[Value.int .i64 2, Value.slice tA 0 tc, Value.int .i64 0, Value.int .i64 0, Value.slice (some ⟨b, off, none⟩) 2 cap] 25)) => bel_cell hbl1 (hW _ _ p2) p
  have p3' := fun p : Bel (w.alloc (.cells #[Value.int .i64 2, Value.slice tA 0 tc, Value.int .i64 0, Value.int .i64 0, Value.slice (some ⟨b, off, none⟩) 2 cap] 25)) => bel_cell hbl1 (hW _ _ p3) p
  have p4' := fun p : Bel (w.alloc (.cells #[Value.int .i64 2, Value.slice tA 0 tc, Value.int .i64 0, Value.int .i64 0, Value.slice (some ⟨b, off, none⟩) 2 cap] 25)) => bel_cell hbl1 (hW _ _ p4) p
  have HDr := Lib.hid (show Below (w.alloc (.cells #[Value.int .i64 2, Value.slice tA 0 tc, Value.int .i64 0, Value.int .i64 0, Value.slice (some ⟨b, off, none⟩) 2 cap] 25)).heap.size (w.alloc (.cells #[Value.int .i64 2, Value.slice tA 0 tc, Value.int .i64 0, Value.int .i64 0, Value.slice (some ⟨b, off, none⟩) 2 cap] 25)) (w.alloc (.cells #[Value.int .i64 2, Value.slice tA 0 tc, Value.int .i64 0, Value.int .i64 0, Value.slice (some ⟨b, off, none⟩) 2 cap] 25)).drew from (Below.refl _ _).drew)
  clear hsz hW hbl1
  clear e0 e1 hk hk2 hkid hcl hd ht hv hv2 h IH hT hbare
  generalize a.kind = x0 at *
  generalize a.terms.length = x1 at *
  generalize a.cmp = x2 at *
  generalize a.than = x3 at *
  generalize a.kids.length = x4 at *
  generalize d.kind = y0 at *
  generalize d.terms.length = y1 at *
  generalize d.cmp = y2 at *
  generalize d.than = y3 at *
  generalize d.kids.length = y4 at *
  go_enter Tryz.func50, Tryz.ntmps50
  go_wp2_with fail
  have hbs := bel_some (w.alloc (.cells #[Value.int .i64 2, Value.slice tA 0 tc, Value.int .i64 0, Value.int .i64 0, Value.slice (some ⟨b, off, none⟩) 2 cap] 25))
  refine wp_region_bel (w.alloc (.cells #[Value.int .i64 2, Value.slice tA 0 tc, Value.int .i64 0, Value.int .i64 0, Value.slice (some ⟨b, off, none⟩) 2 cap] 25)) (by kernel_rfl) (by kernel_rfl) HDr.out ?_
  repeat (quiet_step (first | (go_at_call 50; with_reducible exact bel_call HCa.out _) | (go_at_call 50; with_reducible exact bel_call HCd.out _)))
  refine wpQuiet_nil ?_
  intro _ hw'
  obtain ⟨⟨w2, hb2⟩, rfl⟩ := hw'
  have HB2 := Lib.hid (HB0.out.trans (hb2.mono HB0.out.size))
  have hbox2 := (hb2.cell (p := ⟨w.heap.size, 0, none⟩) (by simp)).trans hbox
  clear hb2
  by_cases hp : lev 2 < least
  · have hd1 : decide (((lev 2 : Nat) : Int) < (least : Int)) = true := by simp; omega
    have HE := Lib.hid (show E = [40] ++ (S ++ 32 :: 97 :: 110 :: 100 :: 32 :: S2) ++ [41] from hs.trans (if_pos hp))
    go_wp2_with fail
    refine (HL.out _).mono ?_; rintro e w3 ⟨rfl, hb3⟩
    have HB3 := Lib.hid (HB2.out.trans (hb3.mono HB2.out.size))
    clear hb3
    go_wp2_with fail
    go_ret
    exact ⟨congrArg (fun x => Ending.returned (Value.string x)) (show ({ data := #[40] } : ByteArray) ++ Bs (S ++ 32 :: 97 :: 110 :: 100 :: 32 :: S2) ++ { data := #[41] } = Bs E by rw [HE.out]; exact paren_bs _), HB3.out⟩
  · have hd1 : decide (((lev 2 : Nat) : Int) < (least : Int)) = false := by simp; omega
    have HE := Lib.hid (show E = S ++ 32 :: 97 :: 110 :: 100 :: 32 :: S2 from hs.trans (if_neg hp))
    go_wp2_with fail
    refine (HL.out _).mono ?_; rintro e w3 ⟨rfl, hb3⟩
    have HB3 := Lib.hid (HB2.out.trans (hb3.mono HB2.out.size))
    clear hb3
    go_wp2_with fail
    go_ret
    exact ⟨by rw [HE.out]; rfl, HB3.out⟩
set_option maxRecDepth 100000 in
set_option maxHeartbeats 4000000 in
theorem show_or (f : Nat) (hf : f ≤ 13) (IH : ShowAt f) (a d : Cd) (v : V5) (P : Nat → Prop) (least : Nat) (w : World) (h : CdV P w v (.mk 3 [] 0 0 [a, d])) (hv : VC f a) (hv2 : VC f d) (hT : Tabs w) :
    Calls Tryz.prog 50 #[v.val, .int .i64 (least : Int)] w fun e w' => e = .returned (.string (Bs (showF (f + 1) (.mk 3 [] 0 0 [a, d]) least))) ∧ Below w.heap.size w w' := by
  obtain ⟨tv, dv, vs, rfl, ht, hd, hvl, hkid, -, -⟩ := h.open_
  dsimp only [Cd.kind, Cd.terms, Cd.cmp, Cd.than, Cd.kids, V5.val] at *
  obtain ⟨tA, tc, rfl⟩ := ht.form
  obtain ⟨b, off, cap, rfl, hbl, hcl⟩ := kid_cells hd hvl hkid (by simp)
  obtain ⟨A2, c2, A3, c3, q0, q1, q2, q3, q4, hk⟩ := hcl 0 (by simp)
  obtain ⟨A4, c4, A5, c5, p0, p1, p2, p3, p4, hk2⟩ := hcl 1 (by simp)
  have e0 : [a, d].getD 0 cd0 = a := rfl
  have e1 : [a, d].getD 1 cd0 = d := rfl
  rw [e0] at q0 q1 q2 q3 q4 hk
  rw [e1] at p0 p1 p2 p3 p4 hk2
  simp only [Nat.zero_mul, Nat.one_mul, Nat.add_zero, List.length_cons, List.length_nil, Nat.zero_add, Nat.reduceAdd] at *
  have HB0 := Lib.hid ((Below.refl w.heap.size w).alloc (Nat.le_refl _) (.cells #[Value.int .i64 3, Value.slice tA 0 tc, Value.int .i64 0, Value.int .i64 0, Value.slice (some ⟨b, off, none⟩) 2 cap] 25))
  have HCa := Lib.hid (fun W (hb : Below (w.alloc (.cells #[Value.int .i64 3, Value.slice tA 0 tc, Value.int .i64 0, Value.int .i64 0, Value.slice (some ⟨b, off, none⟩) 2 cap] 25)).heap.size (w.alloc (.cells #[Value.int .i64 3, Value.slice tA 0 tc, Value.int .i64 0, Value.int .i64 0, Value.slice (some ⟨b, off, none⟩) 2 cap] 25)) W) => (by have := IH a _ P 1 W (hk.later (HB0.out.trans (hb.mono HB0.out.size))) hv (hT.later (HB0.out.trans (hb.mono HB0.out.size))); rwa [show ((1 : Nat) : Int) = 1 from rfl] at this : Calls Tryz.prog 50 #[_, .int .i64 1] W _))
  have HCd := Lib.hid (fun W (hb : Below (w.alloc (.cells #[Value.int .i64 3, Value.slice tA 0 tc, Value.int .i64 0, Value.int .i64 0, Value.slice (some ⟨b, off, none⟩) 2 cap] 25)).heap.size (w.alloc (.cells #[Value.int .i64 3, Value.slice tA 0 tc, Value.int .i64 0, Value.int .i64 0, Value.slice (some ⟨b, off, none⟩) 2 cap] 25)) W) => (by have := IH d _ P 2 W (hk2.later (HB0.out.trans (hb.mono HB0.out.size))) hv2 (hT.later (HB0.out.trans (hb.mono HB0.out.size))); rwa [show ((2 : Nat) : Int) = 2 from rfl] at this : Calls Tryz.prog 50 #[_, .int .i64 2] W _))
  unfold V5.val at HCa HCd
  dsimp only at HCa HCd
  have hs := show_bare f (.mk 3 [] 0 0 [a, d]) least
  have hbare : bareS f (.mk 3 [] 0 0 [a, d]) = showF f a 1 ++ 32 :: 111 :: 114 :: 32 :: showF f d 2 := by
    show showF f a 1 ++ ([32] ++ wOr ++ [32]) ++ showF f d 2 = _
    simp [wOr]
  have hp13 : 500 * 2 ^ f ≤ 4096000 := (Nat.mul_le_mul_left 500 (Nat.pow_le_pow_right (by omega) hf : 2 ^ f ≤ 2 ^ 13))
  have hSl : (showF f a 1).length ≤ 4096000 := Nat.le_trans (by have := show_len f a 1 hv; omega) hp13
  have hSl2 : (showF f d 2).length ≤ 4096000 := Nat.le_trans (by have := show_len f d 2 hv2; omega) hp13
  clear hp13
  rw [hbare] at hs
  generalize showF (f + 1) (.mk 3 [] 0 0 [a, d]) least = E at *
  generalize showF f a 1 = S at *
  generalize showF f d 2 = S2 at *
  have k1 := fun w => cat_run (P := Tryz.prog) S [32, 111, 114, 32] (by simp; omega) w
  have k2 := fun w => cat_run (P := Tryz.prog) (S ++ [32, 111, 114, 32]) S2 (by simp; omega) w
  have HL := Lib.hid (fun W => level_any 3 (by omega) (by omega) W)
  have HBox := Lib.hid (fun j => World.cell?_alloc_at (w := w) #[Value.int .i64 3, Value.slice tA 0 tc, Value.int .i64 0, Value.int .i64 0, Value.slice (some ⟨b, off, none⟩) 2 cap] 25 w.heap.size j rfl)
  have hbox := HBox.out 0
  have hsz : (w.alloc (.cells #[Value.int .i64 3, Value.slice tA 0 tc, Value.int .i64 0, Value.int .i64 0, Value.slice (some ⟨b, off, none⟩) 2 cap] 25)).heap.size = w.heap.size + 1 := by simp
  have hW : ∀ x j, w.cell? ⟨b, x, none⟩ = some j → (w.alloc (.cells #[Value.int .i64 3, Value.slice tA 0 tc, Value.int .i64 0, Value.int .i64 0, Value.slice (some ⟨b, off, none⟩) 2 cap] 25)).cell? ⟨b, x, none⟩ = some j := fun x j h => (World.cell?_alloc_lt _ _ ⟨b, x, none⟩ hbl).trans h
  have hbl1 : b < (w.alloc (.cells #[Value.int .i64 3, Value.slice tA 0 tc, Value.int .i64 0, Value.int .i64 0, Value.slice (some ⟨b, off, none⟩) 2 cap] 25)).heap.size := by rw [hsz]; omega
  have g4 := fun p : Bel (w.alloc (.cells #[Value.int .i64 3, Value.slice tA 0 tc, Value.int .i64 0, Value.int .i64 0, Value.slice (some ⟨b, off, none⟩) 2 cap] 25)) => bel_cell (a := ⟨w.heap.size, 4, none⟩) (by rw [hsz]; exact Nat.lt_succ_self _) (HBox.out 4) p
  have g0 := fun p : Bel (w.alloc (.cells #[Value.int .i64 3, Value.slice tA 0 tc, Value.int .i64 0, Value.int .i64 0, Value.slice (some ⟨b, off, none⟩) 2 cap] 25)) => bel_cell (a := ⟨w.heap.size, 0, none⟩) (by rw [hsz]; exact Nat.lt_succ_self _) (HBox.out 0) p
  have q0' := fun p : Bel (w.alloc (.cells #[Value.int .i64 3, Value.slice tA 0 tc, Value.int .i64 0, Value.int .i64 0, Value.slice (some ⟨b, off, none⟩) 2 cap] 25)) => bel_cell hbl1 (hW _ _ q0) p
  have q1' := fun p : Bel (w.alloc (.cells #[Value.int .i64 3, Value.slice tA 0 tc, Value.int .i64 0, Value.int .i64 0, Value.slice (some ⟨b, off, none⟩) 2 cap] 25)) => bel_cell hbl1 (hW _ _ q1) p
  have q2' := fun p : Bel (w.alloc (.cells #[Value.int .i64 3, Value.slice tA 0 tc, Value.int .i64 0, Value.int .i64 0, Value.slice (some ⟨b, off, none⟩) 2 cap] 25)) => bel_cell hbl1 (hW _ _ q2) p
  have q3' := fun p : Bel (w.alloc (.cells #[Value.int .i64 3, Value.slice tA 0 tc, Value.int .i64 0, Value.int .i64 0, Value.slice (some ⟨b, off, none⟩) 2 cap] 25)) => bel_cell hbl1 (hW _ _ q3) p
  have q4' := fun p : Bel (w.alloc (.cells #[Value.int .i64 3, Value.slice tA 0 tc, Value.int .i64 0, Value.int .i64 0, Value.slice (some ⟨b, off, none⟩) 2 cap] 25)) => bel_cell hbl1 (hW _ _ q4) p
  have p0' := fun p : Bel (w.alloc (.cells #[Value.int .i64 3, Value.slice tA 0 tc, Value.int .i64 0, Value.int .i64 0, Value.slice (some ⟨b, off, none⟩) 2 cap] 25)) => bel_cell hbl1 (hW _ _ p0) p
  have p1' := fun p : Bel (w.alloc (.cells #[Value.int .i64 3, Value.slice tA 0 tc, Value.int .i64 0, Value.int .i64 0, Value.slice (some ⟨b, off, none⟩) 2 cap] 25)) => bel_cell hbl1 (hW _ _ p1) p
  have p2' := fun p : Bel (w.alloc (.cells #[Value.int .i64 3, Value.slice tA 0 tc, Value.int .i64 0, Value.int .i64 0, Value.slice (some ⟨b, off, none⟩) 2 cap] 25)) => bel_cell hbl1 (hW _ _ p2) p
  have p3' := fun p : Bel (w.alloc (.cells #[Value.int .i64 3, Value.slice tA 0 tc, Value.int .i64 0, Value.int .i64 0, Value.slice (some ⟨b, off, none⟩) 2 cap] 25)) => bel_cell hbl1 (hW _ _ p3) p
  have p4' := fun p : Bel (w.alloc (.cells #[Value.int .i64 3, Value.slice tA 0 tc, Value.int .i64 0, Value.int .i64 0, Value.slice (some ⟨b, off, none⟩) 2 cap] 25)) => bel_cell hbl1 (hW _ _ p4) p
  have HDr := Lib.hid (show Below (w.alloc (.cells #[Value.int .i64 3, Value.slice tA 0 tc, Value.int .i64 0, Value.int .i64 0, Value.slice (some ⟨b, off, none⟩) 2 cap] 25)).heap.size (w.alloc (.cells #[Value.int .i64 3, Value.slice tA 0 tc, Value.int .i64 0, Value.int .i64 0, Value.slice (some ⟨b, off, none⟩) 2 cap] 25)) (w.alloc (.cells #[Value.int .i64 3, Value.slice tA 0 tc, Value.int .i64 0, Value.int .i64 0, Value.slice (some ⟨b, off, none⟩) 2 cap] 25)).drew from (Below.refl _ _).drew)
  clear hsz hW hbl1
  clear e0 e1 hk hk2 hkid hcl hd ht hv hv2 h IH hT hbare
  generalize a.kind = x0 at *
  generalize a.terms.length = x1 at *
  generalize a.cmp = x2 at *
  generalize a.than = x3 at *
  generalize a.kids.length = x4 at *
  generalize d.kind = y0 at *
  generalize d.terms.length = y1 at *
  generalize d.cmp = y2 at *
  generalize d.than = y3 at *
  generalize d.kids.length = y4 at *
  go_enter Tryz.func50, Tryz.ntmps50
  go_wp2_with fail
  have hbs := bel_some (w.alloc (.cells #[Value.int .i64 3, Value.slice tA 0 tc, Value.int .i64 0, Value.int .i64 0, Value.slice (some ⟨b, off, none⟩) 2 cap] 25))
  refine wp_region_bel (w.alloc (.cells #[Value.int .i64 3, Value.slice tA 0 tc, Value.int .i64 0, Value.int .i64 0, Value.slice (some ⟨b, off, none⟩) 2 cap] 25)) (by kernel_rfl) (by kernel_rfl) HDr.out ?_
  repeat (quiet_step (first | (go_at_call 50; with_reducible exact bel_call HCa.out _) | (go_at_call 50; with_reducible exact bel_call HCd.out _)))
  refine wpQuiet_nil ?_
  intro _ hw'
  obtain ⟨⟨w2, hb2⟩, rfl⟩ := hw'
  have HB2 := Lib.hid (HB0.out.trans (hb2.mono HB0.out.size))
  have hbox2 := (hb2.cell (p := ⟨w.heap.size, 0, none⟩) (by simp)).trans hbox
  clear hb2
  by_cases hp : lev 3 < least
  · have hd1 : decide (((lev 3 : Nat) : Int) < (least : Int)) = true := by simp; omega
    have HE := Lib.hid (show E = [40] ++ (S ++ 32 :: 111 :: 114 :: 32 :: S2) ++ [41] from hs.trans (if_pos hp))
    go_wp2_with fail
    refine (HL.out _).mono ?_; rintro e w3 ⟨rfl, hb3⟩
    have HB3 := Lib.hid (HB2.out.trans (hb3.mono HB2.out.size))
    clear hb3
    go_wp2_with fail
    go_ret
    exact ⟨congrArg (fun x => Ending.returned (Value.string x)) (show ({ data := #[40] } : ByteArray) ++ Bs (S ++ 32 :: 111 :: 114 :: 32 :: S2) ++ { data := #[41] } = Bs E by rw [HE.out]; exact paren_bs _), HB3.out⟩
  · have hd1 : decide (((lev 3 : Nat) : Int) < (least : Int)) = false := by simp; omega
    have HE := Lib.hid (show E = S ++ 32 :: 111 :: 114 :: 32 :: S2 from hs.trans (if_neg hp))
    go_wp2_with fail
    refine (HL.out _).mono ?_; rintro e w3 ⟨rfl, hb3⟩
    have HB3 := Lib.hid (HB2.out.trans (hb3.mono HB2.out.size))
    clear hb3
    go_wp2_with fail
    go_ret
    exact ⟨by rw [HE.out]; rfl, HB3.out⟩
end Go.Proofs.YtonmpealebggoaaGreatDoor
