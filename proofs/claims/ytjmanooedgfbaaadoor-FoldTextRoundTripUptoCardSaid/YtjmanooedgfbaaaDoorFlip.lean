/- The walk of flipped: a pile turned over. -/
import Derived.Test.YtjmanooedgfbaaaDoorBack
namespace Go.Proofs.YtjmanooedgfbaaaDoor
open Go.RowKit Go.Shelf
attribute [local go_sem] Oper.semAt_some
/-- append of one element of several cells onto a row of the call's own, in a round. -/
theorem wpListIn_pushk {F : Fence} {nF : Nat} {P : Program} {w : World} {ops : Array Oper} {rest : List Oper} {o : Oper} {a : Act} {Q : Exit → Act → World → Prop} {t e : TypeId} {z : Value} {size bytes : Nat} (T : ElemK P t e z size bytes) (hgd : o.guard = none) (s x : Operand)
    (ho : o.op = .call { callee := .builtin .append, args := #[s, x], argTypes := #[t, t] })
    (base : Nat) (v : Value) (n : Nat) (xs : List Value) (hs : a.eval s = v) (hown : w.ownsRow base e size v n xs)
    (ad : Addr) (c : Nat) (news : List Value) (hx : a.eval x = .slice (some ad) 1 c) (hl : news.length = 1 * size) (hu : ∀ j u, news[j]? = some u → w.cell? (ad.add j) = some u) (h1 : ∀ u ∈ news, u.oneCell' = true) (hbytes : (n + 1) * bytes ≤ 140737488355328) (hpos : 0 < bytes) (hsz : 0 < size) (hbase : base ≤ w.heap.size)
    (h : ∀ v' w', w'.ownsRow base e size v' (n + 1) (xs ++ news) → w.grownBy w' v.ownBlock → wpListIn F nF P ops Q rest (a.put o.dst v') w') :
    wpListIn F nF P ops Q (o :: rest) a w := by
  obtain ⟨i, h2, h3, h4, h5⟩ := T.hi
  have hlen : n + 1 ≤ maxLen := by
    have := Nat.le_mul_of_pos_right (n + 1) hpos
    unfold maxLen; omega
  exact wpListIn_append_own w hgd s x t ho base e i z size bytes T.ht h2 h3 h4 h5 T.hz hsz v n xs hs hown ad 1 c news hx hl hu h1 hlen hbytes hbase (fun v' w' a1 a2 _ => h v' w' a1 a2)
def outOf (sw : Bool) (pre : List (Nat × Leaf)) : List Leaf := pre.map fun x => flip1 sw x.2
theorem outOf_snoc (sw : Bool) (pre : List (Nat × Leaf)) (x : Nat × Leaf) : outOf sw (pre ++ [x]) = outOf sw pre ++ [flip1 sw x.2] := by simp [outOf]
theorem outOf_all (sw : Bool) (l : List Leaf) : outOf sw (bkTo l l.length l.length) = flipL sw l := by
  unfold outOf flipL; rw [← bkTo_all, List.map_map]; rfl
theorem Blk.sat {w : World} {g : Nat} {t : TypeId} {cs : Array Value} (h : Blk w g t cs) {i : Nat} {v : Value} (hi : cs[i]? = some v) : w.cell? ⟨g, i, none⟩ = some v := (h.cell i).trans hi
theorem boxed_far {W : World} {B : Nat} {t : TypeId} {v : Value} (h : Boxed W B t v) {p : Addr} (hp : B ≠ p.block) (u : Value) : Boxed (W.setCell p u) B t v := (Below.heap_setCell W p u B hp).trans h
/-- What a round of flipped leaves. -/
theorem flip_round {w W w1 : World} {v v1 : Value} {k Bx j : Nat} {u : Value} {ob : Obj} {cs news : List Value} {sw : Bool} (hB1 : Below w.heap.size w W) (hs : w.heap.size + 3 ≤ W.heap.size) (bO : Boxed W (w.heap.size + 1) 58 v) (bS : Boxed W w.heap.size 4 (.bool sw))
    (hrow : W.ownsRow (w.heap.size + 1) 63 4 v k cs) (hBx : w.heap.size + 3 ≤ Bx) (hne : v.ownBlock ≠ some Bx)
    (hown : w1.ownsRow (w.heap.size + 1) 63 4 v1 (k + 1) news) (hg : ((W.setCell ⟨Bx, j, none⟩ u).alloc ob).grownBy w1 v.ownBlock) :
    Boxed w1 (w.heap.size + 1) 58 v ∧ KeepsFrom (w.heap.size + 3) W (w1.setCell ⟨w.heap.size + 1, 0, none⟩ v1) ∧ KpB w.heap.size (w.heap.size + 1 + 1) W (w1.setCell ⟨w.heap.size + 1, 0, none⟩ v1) ∧
    Boxed (w1.setCell ⟨w.heap.size + 1, 0, none⟩ v1) (w.heap.size + 1) 58 v1 ∧ (w1.setCell ⟨w.heap.size + 1, 0, none⟩ v1).ownsRow (w.heap.size + 1) 63 4 v1 (k + 1) news ∧ Boxed (w1.setCell ⟨w.heap.size + 1, 0, none⟩ v1) w.heap.size 4 (.bool sw) ∧
    Below w.heap.size w (w1.setCell ⟨w.heap.size + 1, 0, none⟩ v1) ∧ w.heap.size + 3 ≤ (w1.setCell ⟨w.heap.size + 1, 0, none⟩ v1).heap.size := by
  have hrow' := own_setCell hrow (p := ⟨Bx, j, none⟩) (.inr hne) u
  have bO' := boxed_far bO (p := ⟨Bx, j, none⟩) (by simp; omega) u
  have hz : (W.setCell ⟨Bx, j, none⟩ u).heap.size = W.heap.size := by simp [World.setCell]
  obtain ⟨hv1, hv2, hr2, hk2, hb2⟩ := bO'.appended (by decide) hrow' (by omega) (Nat.le_refl _) hown hg
  have hbW : Below w.heap.size W (w1.setCell ⟨w.heap.size + 1, 0, none⟩ v1) := ((Below.refl w.heap.size W).setCell (p := ⟨Bx, j, none⟩) (by simp; omega) u).trans (hb2.mono (by omega))
  have far : ∀ {B : Nat} {t : TypeId} {y : Value}, Boxed W B t y → B ≠ Bx → B ≠ w.heap.size + 1 → t ≠ 63 → Boxed (w1.setCell ⟨w.heap.size + 1, 0, none⟩ v1) B t y := fun {B t y} h h1 h2 h3 => by
    have g1 := boxed_far h (p := ⟨Bx, j, none⟩) h1 u
    exact boxed_far ((g1.alloc ob).kept hg (g1.not_row h3 hrow')) (p := ⟨w.heap.size + 1, 0, none⟩) h2 v1
  refine ⟨hv1, ((KeepsOthers.setCell _ _ _).trans hk2).from _, ⟨hbW, fun y hy => far hy (by omega) (by omega) (by decide)⟩, hv2, hr2, far bS (by omega) (by omega) (by decide), hB1.trans hbW, ?_⟩
  have := hbW.size; omega
set_option maxRecDepth 100000 in
set_option maxHeartbeats 4000000 in
theorem flipped_in (F : Fence) (n : Nat) (h3 : F.fn 30) (h4 : F.fn 38) (h5 : F.fn 48) (hro : F.round = none) (hn : 3 ≤ n) (A : Option Addr) (c : Nat) (l : List Leaf) (sw : Bool) (w : World) (hreach : l.length ≤ 1000000) (hI : Lv w (fun b => b < w.heap.size) (.slice A l.length c) l) :
    CallsIn F n Tryd.prog 30 #[.slice A l.length c, .bool sw] w fun e W' => ∃ v, e = .returned v ∧ W'.ownsRow w.heap.size 63 4 v l.length (lcells (flipL sw l)) ∧ Below w.heap.size w W' := by
  have h1 : 1 ≤ n := by omega
  have HI := Lib.hid hI
  clear hI
  generalize hlen : l.length = len at *
  refine callsIn_of_wp_marks Tryd.func30 rfl h3 ?_ hro
  simp only [Tryd.ntmps30, List.size_toArray, List.length_cons, List.length_nil, Nat.reduceAdd, Nat.reduceSub, Array.replicate_succ, Array.replicate_zero, List.push_toArray, List.append_toArray, List.nil_append, List.cons_append]
  gi_wp2_with (gi_at_call 38; refine (back_in F (n - 1) h4 hro _ _ _ _).mono ?_; rintro e w' ⟨rfl, rfl⟩)
  have bS := ((Boxed.new w 4 (.bool sw)).alloc (.cells #[.slice none 0 0] 58)).alloc (.cells #[.slice A len c] 58)
  have bO := (Boxed.new (w.alloc (.cells #[.bool sw] 4)) 58 (.slice none 0 0)).alloc (.cells #[.slice A len c] 58)
  have bL := Boxed.new ((w.alloc (.cells #[.bool sw] 4)).alloc (.cells #[.slice none 0 0] 58)) 58 (.slice A len c)
  simp only [World.size_alloc] at bO bL
  have hB0 : Below w.heap.size w (((w.alloc (.cells #[.bool sw] 4)).alloc (.cells #[.slice none 0 0] 58)).alloc (.cells #[.slice A len c] 58)) := (((Below.refl _ w).alloc (Nat.le_refl _) _).alloc (by simp) _).alloc (by simp; omega) _
  have hsz : (((w.alloc (.cells #[.bool sw] 4)).alloc (.cells #[.slice none 0 0] 58)).alloc (.cells #[.slice A len c] 58)).heap.size = w.heap.size + 3 := by simp
  obtain ⟨W0, hW0⟩ : ∃ W0, ((w.alloc (.cells #[.bool sw] 4)).alloc (.cells #[.slice none 0 0] 58)).alloc (.cells #[.slice A len c] 58) = W0 := ⟨_, rfl⟩
  rw [hW0] at bS bO bL hB0 hsz ⊢
  clear hW0
  have hL0 : Lv W0 (fun b => b < w.heap.size) (.slice A l.length c) l := by rw [hlen]; exact SlM.later HI.out hB0
  refine wpIn_rangeFunc_ownH hro h1 (gf := 48) (lb := #[.pointer (some ⟨w.heap.size + 1 + 1, 0, none⟩)]) rfl h5 (enters_of Tryd.func48 (by kernel_rfl) rfl)
    (back_stops F (n - 1) h5 hro (by omega) (w.heap.size + 1 + 1) w.heap.size A c l (by omega) W0 (by omega) (by omega) (by rw [hlen]; exact bL) hL0) KpB.trans (KpB.obj (by omega)) (Below.refl _ _) (fun _ => rfl)
    (fun pre W => ((∃ v, Boxed W (w.heap.size + 1) 58 v ∧ W.ownsRow (w.heap.size + 1) 63 4 v pre.length (lcells (outOf sw pre)) ∧ True) ∧ Boxed W w.heap.size 4 (.bool sw)) ∧ Below w.heap.size w W ∧ w.heap.size + 3 ≤ W.heap.size)
    (fun _ _ _ => False)
    (OwnFrom.and (OwnFrom.and (Own.from (holdsRow_own (w.heap.size + 1) (w.heap.size + 1) 58 63 4 (fun pre => pre.length) (fun pre => lcells (outOf sw pre)) (fun _ _ => True)) _) (Own.from (boxed_own _ _ _) _)) (OwnFrom.and (ownFrom_below (Nat.le_refl _) (by omega)) (fun _ _ _ _ hs hg _ => Nat.le_trans hs hg.size)))
    (fun _ _ _ _ _ hs _ _ => hs)
    ⟨⟨⟨_, bO, World.ownsRow_nil _ _ _ _, trivial⟩, bS⟩, hB0, by omega⟩
    (fun x a' W => ∃ Bx v, w.heap.size + 3 ≤ Bx ∧ Blk W Bx 63 #[.int .i64 (x.2.c : Int), .int .i64 (x.2.r : Int), .bool x.2.fx, .bool x.2.fy] ∧ Boxed W (w.heap.size + 1) 58 v ∧ v.ownBlock ≠ some Bx ∧ a' = { tmps := #[.slice A len c, .bool sw, undef, .pointer (some ⟨w.heap.size, 0, none⟩), .slice none 0 0, .pointer (some ⟨w.heap.size + 1, 0, none⟩), undef, .pointer (some ⟨Bx, 0, none⟩), .slice A len c, .func (.func 48) #[] #[.pointer (some ⟨w.heap.size + 1 + 1, 0, none⟩)], .int .i64 (x.1 : Int), .agg #[.int .i64 (x.2.c : Int), .int .i64 (x.2.r : Int), .bool x.2.fx, .bool x.2.fy], undef, undef, undef, undef, undef, undef, undef, undef, undef, undef, undef, undef, undef, undef], defers := [] })
    (fun x a' _ X Y row hs hg hr => by
      obtain ⟨Bx, v, h1, h2, h3, h4, h5⟩ := hs
      refine ⟨Bx, v, h1, h2.grown hg (fun e => ?_), h3.kept hg (fun e => ?_), h4, h5⟩
      · obtain ⟨_, o, ho, hc⟩ := hr Bx e.symm
        rw [show X.heap[Bx]? = _ from h2] at ho; cases ho; cases hc
      · obtain ⟨_, o, ho, hc⟩ := hr _ e.symm
        rw [show X.heap[w.heap.size + 1]? = _ from h3] at ho; cases ho; cases hc)
    ?assign ?body ?done ?stop
  case assign =>
    rintro lo pre x W K ⟨⟨⟨v, bO1, hrow, _⟩, bS1⟩, hB1, hs1⟩ hK
    gi_wp2
    have hsW := hB1.size
    exact hK _ _ ((KeepsOthers.alloc _ _).from _) ⟨(Below.refl _ W).alloc hsW _, fun v hv => hv.alloc _⟩ ⟨⟨⟨v, bO1.alloc _, hrow.alloc _, trivial⟩, bS1.alloc _⟩, hB1.alloc hsW _, by simp; omega⟩ ⟨W.heap.size, v, hs1, Blk.new W _ _, bO1.alloc _, fun e => by have := (own_lt hrow _ e).2; omega, rfl⟩
  case body =>
    rintro lo pre x a' W hl ⟨r, hr⟩ ⟨⟨⟨v, bO1, hrow, _⟩, bS1⟩, hB1, hs1⟩ ⟨Bx, v', hBx, bX, bO2, hne, rfl⟩ hlt
    have hvv : v' = v := by
      have := (show W.heap[w.heap.size + 1]? = _ from bO2).symm.trans (show W.heap[w.heap.size + 1]? = _ from bO1)
      simpa using this
    subst hvv
    obtain ⟨q, y⟩ := x
    obtain ⟨yc, yr, yfx, yfy⟩ := y
    dsimp only at bX ⊢
    have cS := bS1.cell
    have cO := bO1.cell
    have fO := bO1.frozen
    have x0 : W.cell? ⟨Bx, 0, none⟩ = some (.int .i64 (yc : Int)) := bX.cell 0
    have x1 : W.cell? ⟨Bx, 1, none⟩ = some (.int .i64 (yr : Int)) := bX.cell 1
    have x2 : W.cell? ⟨Bx, 2, none⟩ = some (.bool yfx) := bX.cell 2
    have x3 : W.cell? ⟨Bx, 3, none⟩ = some (.bool yfy) := bX.cell 3
    have f2 := bX.frozen 2
    have f3 := bX.frozen 3
    have hBW : Bx < W.heap.size := bX.lt
    have hpl : pre.length ≤ 1000000 := by omega
    have HX := Lib.hid bX
    have HO := Lib.hid bO1
    have HRow := Lib.hid hrow
    have HS := Lib.hid bS1
    have HB1 := Lib.hid hB1
    have HNe := Lib.hid hne
    clear bX bO1 bO2 hrow bS1 hB1 hne
    cases sw
    · gi_wp2_with (gi_at_builtin; refine wpListIn_pushk eLeaf rfl (.tmp 21) (.tmp 23) rfl (w.heap.size + 1) v' pre.length _ rfl ((own_setCell HRow.out (p := ⟨Bx, 3, none⟩) (.inr HNe.out) _).alloc _) ⟨W.heap.size, 0, none⟩ 1 [.int .i64 (yc : Int), .int .i64 (yr : Int), .bool yfx, .bool !yfy] rfl rfl (news_new _ _ _ _ (by simp [World.setCell])) (by simp [Value.oneCell']) (by omega) (by omega) (by omega) (by simp [World.setCell]; omega) ?_; intro v1 w1 hown1 hg1; obtain ⟨g', cap', rfl⟩ := ownsRow_succ hown1; obtain ⟨r1, r2, r3, r4, r5, r6, r7, r8⟩ := flip_round HB1.out hs1 HO.out HS.out HRow.out hBx HNe.out hown1 hg1; have hc1 := r1.cell; have hf1 := r1.frozen; have R2 := Lib.hid r2; have R3 := Lib.hid r3; have R4 := Lib.hid r4; have R5 := Lib.hid r5; have R6 := Lib.hid r6; have R7 := Lib.hid r7; have R8 := Lib.hid r8; clear r1 r2 r3 r4 r5 r6 r7 r8 hown1 hg1)
      refine ⟨by rw [hsz]; exact R2.out, R3.out, ⟨⟨⟨_, R4.out, ?_, trivial⟩, R6.out⟩, R7.out, R8.out⟩⟩
      rw [outOf_snoc, lcells_append, lcells_one, List.length_append]
      exact R5.out
    · gi_wp2_with (gi_at_builtin; refine wpListIn_pushk eLeaf rfl (.tmp 21) (.tmp 23) rfl (w.heap.size + 1) v' pre.length _ rfl ((own_setCell HRow.out (p := ⟨Bx, 2, none⟩) (.inr HNe.out) _).alloc _) ⟨W.heap.size, 0, none⟩ 1 [.int .i64 (yc : Int), .int .i64 (yr : Int), .bool !yfx, .bool yfy] rfl rfl (news_new _ _ _ _ (by simp [World.setCell])) (by simp [Value.oneCell']) (by omega) (by omega) (by omega) (by simp [World.setCell]; omega) ?_; intro v1 w1 hown1 hg1; obtain ⟨g', cap', rfl⟩ := ownsRow_succ hown1; obtain ⟨r1, r2, r3, r4, r5, r6, r7, r8⟩ := flip_round HB1.out hs1 HO.out HS.out HRow.out hBx HNe.out hown1 hg1; have hc1 := r1.cell; have hf1 := r1.frozen; have R2 := Lib.hid r2; have R3 := Lib.hid r3; have R4 := Lib.hid r4; have R5 := Lib.hid r5; have R6 := Lib.hid r6; have R7 := Lib.hid r7; have R8 := Lib.hid r8; clear r1 r2 r3 r4 r5 r6 r7 r8 hown1 hg1)
      refine ⟨by rw [hsz]; exact R2.out, R3.out, ⟨⟨⟨_, R4.out, ?_, trivial⟩, R6.out⟩, R7.out, R8.out⟩⟩
      rw [outOf_snoc, lcells_append, lcells_one, List.length_append]
      exact R5.out
  case done =>
    rintro D ys W hD rfl ⟨⟨⟨v, bO1, hrow, _⟩, bS1⟩, hB1, hs1⟩ hK
    have cS := bO1.cell
    have HR := Lib.hid hrow
    have HB1 := Lib.hid hB1
    clear hrow hB1 bO1 bS1
    gi_wp2
    refine ⟨by simp, .inl ⟨_, _, rfl, run_takeDeferred hK, ?_⟩⟩
    refine ⟨_, results_tmp rfl _ _ _, v, rfl, ?_, HB1.out.trans (belowK_b (w := w) (Nat.le_refl _) W D _ _ (by omega) hK rfl rfl)⟩
    have h1 := own_base (ownsRow_putObj HR.out (.deferred none) hK rfl) (show w.heap.size ≤ w.heap.size + 1 by omega)
    rw [outOf_all, bkTo_length, hlen] at h1
    exact h1
  case stop =>
    rintro D c pre W _ _ h _
    exact h.elim
/-- A pile turned over. -/
theorem flipped_any (v : Value) (l : List Leaf) (sw : Bool) (w : World) (ok : Nat → Prop) (hreach : l.length ≤ 1000000) (hI : Lv w ok v l) :
    Calls Tryd.prog 30 #[v, .bool sw] w fun e W' => ∃ v', e = .returned v' ∧ W'.ownsRow w.heap.size 63 4 v' l.length (lcells (flipL sw l)) ∧ Below w.heap.size w W' := by
  obtain ⟨A, c, rfl⟩ := SlM.form hI
  exact callsIn_wide.1 (flipped_in Fence.wide 10 trivial trivial trivial rfl (by omega) A c l sw w hreach (SlM.mono hI fun b h _ => h))
end Go.Proofs.YtjmanooedgfbaaaDoor
