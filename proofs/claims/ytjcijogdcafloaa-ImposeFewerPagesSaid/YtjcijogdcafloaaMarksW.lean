/- The walk of impose.Marks. -/
import Derived.Test.YtjcijogdcafloaaImpD
import Derived.Test.YtjcijogdcafloaaMarkPlain
namespace Go.Proofs.Ytjcijogdcafloaa
open Go.RowKit
/-- append of m elements of several cells (behind buildSlice) onto a slice of the call's own. -/
theorem wpList_pushm {P : Program} {w : World} {ops : Array Oper} {rest : List Oper} {o : Oper} {a : Act} {Q : Exit → Act → World → Prop} {t e : TypeId} {z : Value} {size bytes : Nat} (T : ElemK P t e z size bytes) (hgd : o.guard = none) (s x : Operand)
    (ho : o.op = .call { callee := .builtin .append, args := #[s, x], argTypes := #[t, t] })
    (base : Nat) (v : Value) (n : Nat) (xs : List Value) (hs : a.eval s = v) (hown : w.ownsRow base e size v n xs)
    (ad : Addr) (m c : Nat) (news : List Value) (hx : a.eval x = .slice (some ad) m c) (hl : news.length = m * size) (hu : ∀ j u, news[j]? = some u → w.cell? (ad.add j) = some u) (h1 : ∀ u ∈ news, u.oneCell' = true) (hbytes : (n + m) * bytes ≤ 140737488355328) (hpos : 0 < bytes) (hsz : 0 < size) (hbase : base ≤ w.heap.size)
    (h : ∀ v' w', w'.ownsRow base e size v' (n + m) (xs ++ news) → w.grownBy w' v.ownBlock → (v'.ownBlock = v.ownBlock ∨ v'.ownBlock = some w.heap.size) → wpList P ops Q rest (a.put o.dst v') w') :
    wpList P ops Q (o :: rest) a w := by
  obtain ⟨i, h2, h3, h4, h5⟩ := T.hi
  have hlen : n + m ≤ maxLen := by
    have := Nat.le_mul_of_pos_right (n + m) hpos
    unfold maxLen; omega
  exact wpList_append_own_at w hgd s x t ho base e i z size bytes T.ht h2 h3 h4 h5 T.hz hsz v n xs hs hown ad m c news hx hl hu h1 hlen hbytes hbase (fun v' w' a1 a2 _ a4 => h v' w' a1 a2 a4)
def mkcell (m : Mk) : List Value := [.int .i64 m.x, .int .i64 m.y, .int .i64 m.w, .int .i64 m.h]
def mkcells (l : List Mk) : List Value := l.flatMap mkcell
theorem mkcells_append (a b : List Mk) : mkcells (a ++ b) = mkcells a ++ mkcells b := by simp [mkcells]
theorem mkcells_two (x y : Mk) : mkcells [x, y] = mkcell x ++ mkcell y := by simp [mkcells]
theorem eMk : ElemK Try.prog 42 48 (.agg #[.int .i64 0, .int .i64 0, .int .i64 0, .int .i64 0]) 4 32 := ElemK.mk_ Try.underlying42 (by kernel_rfl) rfl
/-- What Marks has in memory. -/
structure MkM (cs : Array Value) (w wr : World) (vo : Value) (ms : List Mk) : Prop where
  b : Blk wr w.heap.size 26 cs
  own : wr.ownsRow (w.heap.size + 1) 48 4 vo ms.length (mkcells ms)
  be : Below w.heap.size w wr
theorem MkM.push {cs : Array Value} {w wr w1 : World} {vo v1 : Value} {ms : List Mk} (h : MkM cs w wr vo ms) (ob : Obj) (x y : Mk) (ho : w1.ownsRow (w.heap.size + 1) 48 4 v1 (ms.length + 2) (mkcells ms ++ (mkcell x ++ mkcell y))) (hg : (wr.alloc ob).grownBy w1 vo.ownBlock) : MkM cs w w1 v1 (ms ++ [x, y]) := by
  refine ⟨(h.b.alloc ob).grown hg (own_low h.own (by omega)), ?_, ?_⟩
  · rw [List.length_append, mkcells_append, mkcells_two]; exact ho
  · exact (h.be.alloc (by have := h.be.size; exact this) ob).grown hg (by have := h.be.size; simp; omega) fun k hk => by have := (own_lt h.own k hk).1; omega
/-- A slice value of marks. -/
def MkV (w : World) (ok : Nat → Prop) (v : Value) (l : List Mk) : Prop := SlM w ok v l.length (mkcells l)
def MarksOk (ms : List Mk) (w : World) (e : Ending) (w' : World) : Prop :=
  ∃ v', e = .returned (.tuple #[v', .int .i64 0]) ∧ MkV w' (fun g => w.heap.size ≤ g) v' ms ∧ Below w.heap.size w w'
theorem mul_end {j n : Nat} {s : Int} (hs : 0 ≤ s) (h : j < n) : (j : Int) * s + s ≤ n * s := by
  have := Int.mul_le_mul_of_nonneg_right (show ((j : Int) + 1) ≤ n by omega) hs
  rw [Int.add_mul, Int.one_mul] at this; exact this
theorem marks_bad (I : LayI) (v : Value) (l : List Step) (w : World) (hI : Sv w v l) (hz : impZ I l ≠ 0) :
    Calls Try.prog 13 #[I.val v] w fun e w' => e = .returned (.tuple #[.slice none 0 0, .int .i64 (impZ I l)]) ∧ Below w.heap.size w w' := by
  have HI := Lib.hid hI
  have HC : Hid (∀ w', Below w.heap.size w w' → Calls Try.prog 29 #[I.val v] w' fun e w'' => e = .returned (.int .i64 (impZ I l)) ∧ Below w'.heap.size w' w'') := fun w' hb => impcheck_any I v l w' (SlM.later HI.out hb)
  generalize impZ I l = z at *
  have hzb : (z == 0) = false := by simpa using hz
  obtain ⟨Av, cv, ev⟩ := SlM.form hI
  clear hI
  unfold LayI.val at *
  obtain ⟨C, R, W, H, hd, fo, sp, mg, cr, sty⟩ := I
  dsimp only at *
  subst ev
  generalize l.length = n at *
  have hb0 := Lib.hid ((Below.refl w.heap.size w).alloc (Nat.le_refl _) (Obj.cells #[.int .i64 C, .int .i64 R, .slice Av n cv, .int .i64 W, .int .i64 H, .int .i64 hd, .int .i64 fo, .int .i64 sp, .int .i64 mg, .int .i64 cr, .int .i64 sty] 26))
  go_enter Try.func13, Try.ntmps13
  go_wp2_with fail
  refine (HC.out _ hb0.out).mono ?_; rintro e w1 ⟨rfl, hb1⟩
  have HB := Lib.hid (hb0.out.trans (hb1.mono hb0.out.size))
  clear hb1
  go_wp2
  go_ret2
  exact ⟨rfl, HB.out⟩
set_option maxRecDepth 100000 in
set_option maxHeartbeats 4000000 in
theorem marks_ok {L : Lay} {v : Value} {l : List Step} (h : LB L v l) (ok : L.Ok) (hpw : L.pw ≤ 1024) (hph : L.ph ≤ 1024) (w : World) (hI : Sv w v l)
    (HChk : ∀ w', Below w.heap.size w w' → Calls Try.prog 29 #[layV L v] w' fun e w'' => e = .returned (.int .i64 0) ∧ Below w'.heap.size w' w'') :
    Calls Try.prog 13 #[layV L v] w (MarksOk L.marksL w) := by
  have HI := Lib.hid hI
  have HC := Lib.hid HChk
  have HSz : Hid (∀ w', Below w.heap.size w w' → Calls Try.prog 34 #[layV L v] w' fun e w'' => e = .returned (.tuple #[.int .i64 L.pw, .int .i64 L.ph]) ∧ Below w'.heap.size w' w'') := fun w' hb => size_imp h ok.s0 ok.s2 w' (SlM.later HI.out hb)
  have HLf : Hid (∀ w', Below w.heap.size w w' → Calls Try.prog 37 #[layV L v] w' fun e w'' => e = .returned (.tuple #[.int .i64 L.lw, .int .i64 L.lh]) ∧ Below w'.heap.size w' w'') := fun w' hb => leaf_any h w' (SlM.later HI.out hb)
  have HSi : Hid (∀ w', Below w.heap.size w w' → Calls Try.prog 38 #[layV L v] w' fun e w'' => e = .returned (.tuple #[.int .i64 L.sw, .int .i64 L.sh]) ∧ Below w'.heap.size w' w'') := fun w' hb => single_any h w' (SlM.later HI.out hb)
  obtain ⟨z0, z1, z2, z3⟩ := lay_sizes h
  have c1 := ok.c1
  have r1 := ok.r1
  have c8 := h.good.c8
  have r8 := h.good.r8
  have hlw1 : 1 ≤ L.lw ∧ 1 ≤ L.lh := by
    have := ok.w1; have := ok.h1; have := ok.head0; have := ok.fore0; have := ok.spine0
    unfold Lay.lw Lay.lh Lay.fw Lay.fh; split <;> omega
  have m0 := h.mg0
  have m1 : L.margin ≤ 64 := h.mg1
  have hnx : 1 ≤ L.nx ∧ L.nx ≤ 2 := by unfold Lay.nx; split <;> omega
  have hny : 1 ≤ L.ny ∧ L.ny ≤ 2 := by unfold Lay.ny; split <;> omega
  have hsw0 : 1 ≤ L.sw ∧ 1 ≤ L.sh := by
    have a := Int.mul_le_mul_of_nonneg_right (show (1 : Int) ≤ L.C by omega) z0
    have b := Int.mul_le_mul_of_nonneg_right (show (1 : Int) ≤ L.R by omega) z2
    unfold Lay.sw Lay.sh; omega
  have hswp : L.sw ≤ 1024 ∧ L.sh ≤ 1024 := by
    have a := Int.mul_le_mul_of_nonneg_right (show (1 : Int) ≤ L.nx by omega) (show 0 ≤ L.sw by omega)
    have b := Int.mul_le_mul_of_nonneg_right (show (1 : Int) ≤ L.ny by omega) (show 0 ≤ L.sh by omega)
    rw [← L.pw_nx] at a; rw [← L.ph_ny] at b; omega
  have hTo : Hid (L.mkTo 0 = [] ∧ ∀ j, L.mkTo (j + 1) = L.mkTo j ++ L.mkRow (j * L.sh) L.nx) := ⟨rfl, L.mkTo_succ⟩
  have hRow : Hid ((∀ y, L.mkRow y 0 = []) ∧ ∀ y i, L.mkRow y (i + 1) = L.mkRow y i ++ (L.mkCs (i * L.sw) y (L.C - 1) ++ L.mkRs (i * L.sw) y (L.R - 1))) := ⟨fun _ => rfl, L.mkRow_succ⟩
  have hCs : Hid ((∀ x y, L.mkCs x y 0 = []) ∧ ∀ x y c, L.mkCs x y (c + 1) = L.mkCs x y c ++ [⟨x + L.margin + ((c + 1 : Nat) : Int) * L.lw, y, 1, (L.margin / 2)⟩, ⟨x + L.margin + ((c + 1 : Nat) : Int) * L.lw, y + L.sh - (L.margin / 2), 1, (L.margin / 2)⟩]) := ⟨fun _ _ => rfl, L.mkCs_succ⟩
  have hRs : Hid ((∀ x y, L.mkRs x y 0 = []) ∧ ∀ x y c, L.mkRs x y (c + 1) = L.mkRs x y c ++ [⟨x, y + L.margin + ((c + 1 : Nat) : Int) * L.lh, (L.margin / 2), 1⟩, ⟨x + L.sw - (L.margin / 2), y + L.margin + ((c + 1 : Nat) : Int) * L.lh, (L.margin / 2), 1⟩]) := ⟨fun _ _ => rfl, L.mkRs_succ⟩
  have hK : 2 * (L.C - 1) + 2 * (L.R - 1) ≤ 28 := by omega
  have hLn : Hid ((∀ x y c, (L.mkCs x y c).length = 2 * c) ∧ (∀ x y c, (L.mkRs x y c).length = 2 * c) ∧ (∀ y i, i ≤ 2 → (L.mkRow y i).length ≤ 56) ∧ ∀ j, j ≤ 2 → (L.mkTo j).length ≤ 112) := by
    refine ⟨L.mkCs_length, L.mkRs_length, fun y i hi => ?_, fun j hj => ?_⟩
    · rw [L.mkRow_length]; exact Nat.mul_le_mul hi hK
    · rw [L.mkTo_length]
      have := Nat.mul_le_mul hnx.2 hK
      exact Nat.mul_le_mul hj this
  clear hK
  have hML : Hid (L.marksL = if (L.margin / 2) = 0 then [] else L.mkTo L.ny) := rfl
  have hPx := L.pw_nx
  have hPy := L.ph_ny
  have HE : Hid (∀ e w', MarksOk L.marksL w e w' = ∃ v', e = .returned (.tuple #[v', .int .i64 0]) ∧ MkV w' (fun g => w.heap.size ≤ g) v' L.marksL ∧ Below w.heap.size w w') := fun _ _ => rfl
  generalize MarksOk L.marksL w = Post at *
  obtain ⟨Av, cv, ev⟩ := SlM.form hI
  clear hI HChk h ok
  generalize L.marksL = mL at *
  generalize L.mkTo = mT at *
  generalize L.mkRow = mR at *
  generalize L.mkCs = mC at *
  generalize L.mkRs = mS at *
  generalize L.pw = pw at *
  generalize L.ph = ph at *
  generalize L.sw = sw at *
  generalize L.sh = sh at *
  generalize L.lw = lw at *
  generalize L.lh = lh at *
  generalize L.nx = nx at *
  generalize L.ny = ny at *
  unfold layV at *
  obtain ⟨C, R, W, H, hd, fo, sp, mg, cr, sty, od⟩ := L
  dsimp only at *
  subst ev
  generalize l.length = n at *
  obtain ⟨cs, HCe⟩ : ∃ cs : Array Value, Hid (#[.int .i64 (C : Int), .int .i64 (R : Int), .slice Av n cv, .int .i64 W, .int .i64 H, .int .i64 hd, .int .i64 fo, .int .i64 sp, .int .i64 mg, .int .i64 cr, .int .i64 sty] = cs) := ⟨_, rfl⟩
  have HCs : Hid (cs[0]? = some (.int .i64 (C : Int)) ∧ cs[1]? = some (.int .i64 (R : Int)) ∧ cs[8]? = some (.int .i64 mg)) := by
    rw [← HCe.out]; exact ⟨rfl, rfl, rfl⟩
  have hb0 := Lib.hid ((Below.refl w.heap.size w).alloc (Nat.le_refl _) (Obj.cells #[.int .i64 (C : Int), .int .i64 (R : Int), .slice Av n cv, .int .i64 W, .int .i64 H, .int .i64 hd, .int .i64 fo, .int .i64 sp, .int .i64 mg, .int .i64 cr, .int .i64 sty] 26))
  have hbl0 := Lib.hid (Blk.new w 26 #[.int .i64 (C : Int), .int .i64 (R : Int), .slice Av n cv, .int .i64 W, .int .i64 H, .int .i64 hd, .int .i64 fo, .int .i64 sp, .int .i64 mg, .int .i64 cr, .int .i64 sty])
  have HPx := Lib.hid (And.intro hPx hPy)
  clear hPx hPy
  go_enter Try.func13, Try.ntmps13
  go_wp2_with fail
  refine (HC.out _ hb0.out).mono ?_; rintro e w1 ⟨rfl, hb1⟩
  have x0 := hbl0.out.below hb1 hbl0.out.lt
  have u0 := x0.cell 0
  have u1 := x0.cell 1
  have u2 := x0.cell 2
  have u3 := x0.cell 3
  have u4 := x0.cell 4
  have u5 := x0.cell 5
  have u6 := x0.cell 6
  have u7 := x0.cell 7
  have u8 := x0.cell 8
  have u9 := x0.cell 9
  have u10 := x0.cell 10
  simp only [List.getElem?_toArray, List.getElem?_cons_zero, List.getElem?_cons_succ] at u0 u1 u2 u3 u4 u5 u6 u7 u8 u9 u10
  have HX0 := Lib.hid x0
  have HB := Lib.hid (hb0.out.trans (hb1.mono hb0.out.size))
  clear hb1 x0
  by_cases hm0 : (mg / 2) = 0
  · have HM0 := Lib.hid hm0
    have hmg : mg = 0 ∨ mg = 1 := by omega
    clear hm0
    rcases hmg with rfl | rfl
    all_goals
      go_wp2
      rw [HE.out]
      refine ⟨_, rfl, ?_, HB.out⟩
      rw [hML.out, if_pos HM0.out]
      exact SlM.nil _ _
  · have hz : ((mg / 2) == 0) = false := by simpa using hm0
    have hmp : 1 ≤ (mg / 2) := by omega
    have hm2 : (mg / 2) ≤ 32 := by omega
    go_wp2_with fail
    refine (HLf.out _ HB.out).mono ?_; rintro e w2 ⟨rfl, hb2⟩
    have HX1 := Lib.hid (HX0.out.below hb2 HX0.out.lt)
    have HB2 := Lib.hid (HB.out.trans (hb2.mono HB.out.size))
    clear hb2 u0 u1 u2 u3 u4 u5 u6 u7 u8 u9 u10
    have v0 := HX1.out.cell 0
    have v1 := HX1.out.cell 1
    have v2 := HX1.out.cell 2
    have v3 := HX1.out.cell 3
    have v4 := HX1.out.cell 4
    have v5 := HX1.out.cell 5
    have v6 := HX1.out.cell 6
    have v7 := HX1.out.cell 7
    have v8 := HX1.out.cell 8
    have v9 := HX1.out.cell 9
    have v10 := HX1.out.cell 10
    simp only [List.getElem?_toArray, List.getElem?_cons_zero, List.getElem?_cons_succ] at v0 v1 v2 v3 v4 v5 v6 v7 v8 v9 v10
    go_wp2_with fail
    refine (HSi.out _ HB2.out).mono ?_; rintro e w3 ⟨rfl, hb3⟩
    have HX2 := Lib.hid (HX1.out.below hb3 HX1.out.lt)
    have HB3 := Lib.hid (HB2.out.trans (hb3.mono HB2.out.size))
    clear hb3 v0 v1 v2 v3 v4 v5 v6 v7 v8 v9 v10
    have t0 := HX2.out.cell 0
    have t1 := HX2.out.cell 1
    have t2 := HX2.out.cell 2
    have t3 := HX2.out.cell 3
    have t4 := HX2.out.cell 4
    have t5 := HX2.out.cell 5
    have t6 := HX2.out.cell 6
    have t7 := HX2.out.cell 7
    have t8 := HX2.out.cell 8
    have t9 := HX2.out.cell 9
    have t10 := HX2.out.cell 10
    simp only [List.getElem?_toArray, List.getElem?_cons_zero, List.getElem?_cons_succ] at t0 t1 t2 t3 t4 t5 t6 t7 t8 t9 t10
    go_wp2_with fail
    refine (HSz.out _ HB3.out).mono ?_; rintro e w4 ⟨rfl, hb4⟩
    have HX3 := Lib.hid (HX2.out.below hb4 HX2.out.lt)
    have HB4 := Lib.hid (HB3.out.trans (hb4.mono HB3.out.size))
    clear hb4 HX1 HX2 HB HB2 HB3 HX0 t0 t1 t2 t3 t4 t5 t6 t7 t8 t9 t10
    have G0 : Hid (MkM cs w w4 (.slice none 0 0) []) := ⟨HCe.out ▸ HX3.out, ⟨rfl, .inl ⟨rfl, rfl⟩⟩, HB4.out⟩
    go_wp2
    go_loopw [12, 13] (fun v12 v13 wr => ∃ (j : Nat) (Y : Int) (A : Option Addr) (k co : Nat), v12 = .slice A k co ∧ v13 = .int .i64 Y ∧ Y = j * sh ∧ j ≤ ny ∧ MkM cs w wr (.slice A k co) (mT j)) (fun _ v13 _ => (2048 - intOf v13).toNat)
    case atStart => exact ⟨0, 0, none, 0, 0, rfl, rfl, by simp, by omega, by rw [hTo.out.1]; exact G0.out⟩
    case round =>
      obtain ⟨j, Y, A1, k1, co1, rfl, rfl, hY, hj, hm⟩ := hrel
      by_cases hjn : j < ny
      · have hY2 := mul_end (show 0 ≤ sh by omega) hjn
        rw [← hY, ← HPx.out.2] at hY2
        have hY0 : 0 ≤ Y := by rw [hY]; exact Int.mul_nonneg (by omega) (by omega)
        have HY := Lib.hid hY
        have HM1 := Lib.hid hm
        clear hY hm
        have hYp : Y < ph := by omega
        go_wp2
        go_loopw [12, 14] (fun v12 v14 wr => ∃ (i : Nat) (X : Int) (A : Option Addr) (k co : Nat), v12 = .slice A k co ∧ v14 = .int .i64 X ∧ X = i * sw ∧ i ≤ nx ∧ MkM cs w wr (.slice A k co) (mT j ++ mR Y i)) (fun _ v14 _ => (2048 - intOf v14).toNat)
        case atStart => exact ⟨0, 0, A1, k1, co1, rfl, rfl, by simp, by omega, by rw [hRow.out.1, List.append_nil]; exact HM1.out⟩
        case round =>
          obtain ⟨i, X, A2, k2, co2, rfl, rfl, hX, hi, hm⟩ := hrel
          by_cases hin : i < nx
          · have hX2 := mul_end (show 0 ≤ sw by omega) hin
            rw [← hX, ← HPx.out.1] at hX2
            have hX0 : 0 ≤ X := by rw [hX]; exact Int.mul_nonneg (by omega) (by omega)
            have HX := Lib.hid hX
            have hXp : X < pw := by omega
            have hbl : (mT j ++ mR Y i).length ≤ 168 := by
              rw [List.length_append]
              have := hLn.out.2.2.1 Y i (by omega)
              have := hLn.out.2.2.2 j (by omega)
              omega
            generalize hbs : mT j ++ mR Y i = bs at *
            have HBs := Lib.hid hbs
            have HM2 := Lib.hid hm
            clear hX hm hbs
            go_wp2
            go_loopw [12, 15] (fun v12 v15 wr => ∃ (c : Nat) (A : Option Addr) (k co : Nat), v12 = .slice A k co ∧ v15 = .int .i64 (c : Int) ∧ 1 ≤ c ∧ c ≤ C ∧ MkM cs w wr (.slice A k co) (bs ++ mC X Y (c - 1))) (fun _ v15 _ => (2048 - intOf v15).toNat)
            case atStart => exact ⟨1, A2, k2, co2, rfl, rfl, by omega, by omega, by rw [hCs.out.1, List.append_nil]; exact HM2.out⟩
            case round =>
              obtain ⟨c, A3, k3, co3, rfl, rfl, hc1, hc2, hm⟩ := hrel
              obtain ⟨q0, q1⟩ := mul_bound (a := c) (x := lw) (m := 384) (by omega) z0 z1
              have s0 := hm.b.cell 0
              have s8 := hm.b.cell 8
              rw [HCs.out.1] at s0
              rw [HCs.out.2.2] at s8
              by_cases hcc : c < C
              · have hcn := hCs.out.2 X Y (c - 1)
                rw [Nat.sub_add_cancel hc1] at hcn
                have hlen : k3 = (bs ++ mC X Y (c - 1)).length := by
                  rcases hm.own.2 with ⟨e, e0⟩ | ⟨_, _, _, e, _⟩
                  · injection e with _ e2 _; rw [e0, e2]
                  · injection e
                have hk9 : k3 ≤ 200 := by
                  rw [hlen, List.length_append, hLn.out.1]; omega
                have hown := hm.own
                rw [← hlen] at hown
                have hsz := hm.be.size
                have HLen := Lib.hid hlen
                have HM3 := Lib.hid hm
                have HOw := Lib.hid hown
                have HCn := Lib.hid hcn
                clear hm hown hcn hlen
                go_wp2_with (at_builtin; refine wpList_pushm eMk rfl (.tmp 71) (.tmp 84) rfl (w.heap.size + 1) (.slice A3 k3 co3) k3 _ rfl (HOw.out.alloc _) ⟨wr.heap.size, 0, none⟩ 2 2 [.int .i64 (X + mg + (c : Int) * lw), .int .i64 Y, .int .i64 1, .int .i64 (mg / 2), .int .i64 (X + mg + (c : Int) * lw), .int .i64 (Y + sh - (mg / 2)), .int .i64 1, .int .i64 (mg / 2)] rfl rfl (news_new _ _ _ _ rfl) (by simp [Value.oneCell']) (by omega) (by omega) (by omega) (by simp; omega) ?_; intro v5 w5 ho5 hg5 hk5; obtain ⟨g5, cap5, rfl⟩ := ownsRow_succ ho5; have HO5 := Lib.hid ho5; have HG5 := Lib.hid hg5; clear ho5 hg5 hk5)
                go_roundw
                case rel =>
                  refine ⟨c + 1, some ⟨g5, 0, none⟩, k3 + 2, cap5, rfl, by go_num, by omega, by omega, ?_⟩
                  rw [Nat.add_sub_cancel, HCn.out, ← List.append_assoc]
                  exact HM3.out.push _ _ _ (by rw [← HLen.out]; exact HO5.out) HG5.out
                case measure => simp [intOf]; omega
              · obtain rfl : c = C := by omega
                have hdl : (bs ++ mC X Y (c - 1)).length ≤ 200 := by
                  rw [List.length_append, hLn.out.1]; omega
                generalize hds : bs ++ mC X Y (c - 1) = ds at *
                have HDs := Lib.hid hds
                have HM3 := Lib.hid hm
                clear hm hds q0 q1
                go_wp2
                go_loopw [12, 17] (fun v12 v17 wr => ∃ (r : Nat) (A : Option Addr) (k co : Nat), v12 = .slice A k co ∧ v17 = .int .i64 (r : Int) ∧ 1 ≤ r ∧ r ≤ R ∧ MkM cs w wr (.slice A k co) (ds ++ mS X Y (r - 1))) (fun _ v17 _ => (2048 - intOf v17).toNat)
                case atStart => exact ⟨1, A3, k3, co3, rfl, rfl, by omega, by omega, by rw [hRs.out.1, List.append_nil]; exact HM3.out⟩
                case round =>
                  obtain ⟨r, A4, k4, co4, rfl, rfl, hr1, hr2, hm⟩ := hrel
                  obtain ⟨q0, q1⟩ := mul_bound (a := r) (x := lh) (m := 384) (by omega) z2 z3
                  have s1 := hm.b.cell 1
                  have s8 := hm.b.cell 8
                  rw [HCs.out.2.1] at s1
                  rw [HCs.out.2.2] at s8
                  by_cases hrr : r < R
                  · have hcn := hRs.out.2 X Y (r - 1)
                    rw [Nat.sub_add_cancel hr1] at hcn
                    have hlen : k4 = (ds ++ mS X Y (r - 1)).length := by
                      rcases hm.own.2 with ⟨e, e0⟩ | ⟨_, _, _, e, _⟩
                      · injection e with _ e2 _; rw [e0, e2]
                      · injection e
                    have hk9 : k4 ≤ 300 := by
                      rw [hlen, List.length_append, hLn.out.2.1]; omega
                    have hown := hm.own
                    rw [← hlen] at hown
                    have hsz := hm.be.size
                    have HLen := Lib.hid hlen
                    have HM4 := Lib.hid hm
                    have HOw := Lib.hid hown
                    have HCn := Lib.hid hcn
                    clear hm hown hcn hlen
                    go_wp2_with (at_builtin; refine wpList_pushm eMk rfl (.tmp 101) (.tmp 114) rfl (w.heap.size + 1) (.slice A4 k4 co4) k4 _ rfl (HOw.out.alloc _) ⟨wr.heap.size, 0, none⟩ 2 2 [.int .i64 X, .int .i64 (Y + mg + (r : Int) * lh), .int .i64 (mg / 2), .int .i64 1, .int .i64 (X + sw - (mg / 2)), .int .i64 (Y + mg + (r : Int) * lh), .int .i64 (mg / 2), .int .i64 1] rfl rfl (news_new _ _ _ _ rfl) (by simp [Value.oneCell']) (by omega) (by omega) (by omega) (by simp; omega) ?_; intro v5 w5 ho5 hg5 hk5; obtain ⟨g5, cap5, rfl⟩ := ownsRow_succ ho5; have HO5 := Lib.hid ho5; have HG5 := Lib.hid hg5; clear ho5 hg5 hk5)
                    go_roundw
                    case rel =>
                      refine ⟨r + 1, some ⟨g5, 0, none⟩, k4 + 2, cap5, rfl, by go_num, by omega, by omega, ?_⟩
                      rw [Nat.add_sub_cancel, HCn.out, ← List.append_assoc]
                      exact HM4.out.push _ _ _ (by rw [← HLen.out]; exact HO5.out) HG5.out
                    case measure => simp [intOf]; omega
                  · obtain rfl : r = R := by omega
                    have HM4 := Lib.hid hm
                    clear hm q0 q1
                    go_wp2
                    go_roundw
                    case rel =>
                      refine ⟨i + 1, X + sw, A4, k4, co4, rfl, rfl, ?_, by omega, ?_⟩
                      · rw [HX.out, show ((i + 1 : Nat) : Int) = (i : Int) + 1 from by omega, Int.add_mul, Int.one_mul]
                      · rw [hRow.out.2, ← List.append_assoc, HBs.out, ← HX.out, ← List.append_assoc, HDs.out]
                        exact HM4.out
                    case measure => simp [intOf]; omega
          · obtain rfl : i = nx := by omega
            have hXp : pw ≤ X := by rw [HPx.out.1, hX]; exact Int.le_refl _
            have HM2 := Lib.hid hm
            clear hm hX
            go_wp2
            go_roundw
            case rel =>
              refine ⟨j + 1, Y + sh, A2, k2, co2, rfl, rfl, ?_, by omega, ?_⟩
              · rw [HY.out, show ((j + 1 : Nat) : Int) = (j : Int) + 1 from by omega, Int.add_mul, Int.one_mul]
              · rw [hTo.out.2, ← HY.out]
                exact HM2.out
            case measure => simp [intOf]; omega
      · obtain rfl : j = ny := by omega
        have hYp : ph ≤ Y := by rw [HPx.out.2, hY]; exact Int.le_refl _
        have HM1 := Lib.hid hm
        clear hm hY
        have HNm := Lib.hid hm0
        clear hm0
        go_wp2
        rw [HE.out]
        refine ⟨_, rfl, ?_, HM1.out.be⟩
        rw [hML.out, if_neg HNm.out]
        unfold MkV
        have := SlM.of_own HM1.out.own
        exact this.mono fun b _ hb => by have := hb.2; omega
end Go.Proofs.Ytjcijogdcafloaa
