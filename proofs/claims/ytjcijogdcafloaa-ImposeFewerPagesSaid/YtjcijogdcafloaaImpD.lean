/- The walk of Sheet: the places of pages. -/
import Derived.Test.YtjcijogdcafloaaImpC
namespace Go.Proofs.Ytjcijogdcafloaa
open Go.RowKit
def plcell (x : Pla) : List Value := [.int .i64 x.page, .int .i64 x.x, .int .i64 x.y, .int .i64 x.turn]
def plcells (l : List Pla) : List Value := l.flatMap plcell
theorem plcells_snoc (l : List Pla) (x : Pla) : plcells (l ++ [x]) = plcells l ++ plcell x := by simp [plcells]
theorem ePla : ElemK Try.prog 28 36 (.agg #[.int .i64 0, .int .i64 0, .int .i64 0, .int .i64 0]) 4 32 := ElemK.mk_ Try.underlying28 (by kernel_rfl) rfl
theorem own_low {w : World} {base g : Nat} {e : TypeId} {size n : Nat} {v : Value} {xs : List Value} (h : w.ownsRow base e size v n xs) (hg : g < base) : some g ≠ v.ownBlock := fun e' => by have := (own_lt h g e'.symm).1; omega
theorem own_new {w : World} {base g : Nat} {e : TypeId} {size n : Nat} {v : Value} {xs : List Value} (h : w.ownsRow base e size v n xs) (hg : w.heap.size ≤ g) : some g ≠ v.ownBlock := fun e' => by have := (own_lt h g e'.symm).2; omega
/-- What Sheet has in memory: the sheet at block S, its two rows apart from each other. -/
structure SM (S : Nat) (W0 : World) (a b : Int) (wr : World) (vf vb : Value) (lf lb : List Pla) : Prop where
  bs : Blk wr S 30 #[.int .i64 a, .int .i64 b, vf, vb]
  of : wr.ownsRow (S + 1) 36 4 vf lf.length (plcells lf)
  ob : wr.ownsRow (S + 1) 36 4 vb lb.length (plcells lb)
  sep : ∀ k, vf.ownBlock = some k → vb.ownBlock ≠ some k
  be : Below W0.heap.size W0 wr
  hS : W0.heap.size ≤ S
section
variable {S : Nat} {W0 : World} {a b : Int} {wr wa w1 : World} {vf vb v1 : Value} {lf lb : List Pla} {x : Pla}
theorem SM.later (h : SM S W0 a b wr vf vb lf lb) (hb : Below wr.heap.size wr wa) : SM S W0 a b wa vf vb lf lb :=
  ⟨h.bs.below hb h.bs.lt, own_below h.of hb, own_below h.ob hb, h.sep, h.be.trans (hb.mono h.be.size), h.hS⟩
theorem SM.far (h : SM S W0 a b wr vf vb lf lb) {p : Addr} (hp : S < p.block) (hf : vf.ownBlock ≠ some p.block) (hb : vb.ownBlock ≠ some p.block) (u : Value) : SM S W0 a b (wr.setCell p u) vf vb lf lb :=
  ⟨h.bs.far (by omega) u, own_setCell h.of (.inr hf) u, own_setCell h.ob (.inr hb) u, h.sep, h.be.setCell (by have := h.hS; omega) u, h.hS⟩
/-- Before the store: the sheet's block, and where the new row lies. -/
theorem SM.front0 (h : SM S W0 a b wr vf vb lf lb) (hg : wr.grownBy w1 vf.ownBlock) : Blk w1 S 30 #[.int .i64 a, .int .i64 b, vf, vb] := h.bs.grown hg (own_low h.of (by omega))
theorem SM.back0 (h : SM S W0 a b wr vf vb lf lb) (hg : wr.grownBy w1 vb.ownBlock) : Blk w1 S 30 #[.int .i64 a, .int .i64 b, vf, vb] := h.bs.grown hg (own_low h.ob (by omega))
theorem SM.front (h : SM S W0 a b wr vf vb lf lb) (ho : w1.ownsRow (S + 1) 36 4 v1 (lf.length + 1) (plcells lf ++ plcell x)) (hg : wr.grownBy w1 vf.ownBlock) (hk : v1.ownBlock = vf.ownBlock ∨ v1.ownBlock = some wr.heap.size) :
    SM S W0 a b (w1.setCell ⟨S, 2, none⟩ v1) v1 vb (lf ++ [x]) lb := by
  refine ⟨?_, ?_, ?_, ?_, ?_, h.hS⟩
  · have := (h.front0 hg).put 2 v1; simpa using this
  · rw [List.length_append, plcells_snoc]; exact own_setCell ho (p := ⟨S, 2, none⟩) (.inl (by simp)) _
  · refine own_setCell (h.ob.kept hg ?_) (p := ⟨S, 2, none⟩) (.inl (by simp)) _
    cases hvb : vb.ownBlock with
    | none => exact .inl rfl
    | some k => exact .inr fun e => h.sep k e.symm hvb
  · intro k hk1 hk2
    rcases hk with e | e
    · exact h.sep k (e ▸ hk1) hk2
    · rw [e] at hk1
      have := (own_lt h.ob k hk2).2
      have := Option.some.inj hk1; omega
  · exact ((h.be.grown hg h.be.size fun k hk => by have := (own_lt h.of k hk).1; have := h.hS; omega)).setCell (p := ⟨S, 2, none⟩) h.hS _
theorem SM.back (h : SM S W0 a b wr vf vb lf lb) (ho : w1.ownsRow (S + 1) 36 4 v1 (lb.length + 1) (plcells lb ++ plcell x)) (hg : wr.grownBy w1 vb.ownBlock) (hk : v1.ownBlock = vb.ownBlock ∨ v1.ownBlock = some wr.heap.size) :
    SM S W0 a b (w1.setCell ⟨S, 3, none⟩ v1) vf v1 lf (lb ++ [x]) := by
  refine ⟨?_, ?_, ?_, ?_, ?_, h.hS⟩
  · have := (h.back0 hg).put 3 v1; simpa using this
  · refine own_setCell (h.of.kept hg ?_) (p := ⟨S, 3, none⟩) (.inl (by simp)) _
    cases hvf : vf.ownBlock with
    | none => exact .inl rfl
    | some k => exact .inr fun e => h.sep k hvf e.symm
  · rw [List.length_append, plcells_snoc]; exact own_setCell ho (p := ⟨S, 3, none⟩) (.inl (by simp)) _
  · intro k hk1 hk2
    rcases hk with e | e
    · exact h.sep k hk1 (e ▸ hk2)
    · rw [e] at hk2
      have := (own_lt h.of k hk1).2
      have := Option.some.inj hk2; omega
  · exact ((h.be.grown hg h.be.size fun k hk => by have := (own_lt h.ob k hk).1; have := h.hS; omega)).setCell (p := ⟨S, 3, none⟩) h.hS _
end
section
variable {S : Nat} {W0 : World} {a b : Int} {wq w1 : World} {vf vb v1 : Value} {lf lb : List Pla} {x : Pla}
theorem SM.pushF (h : SM S W0 a b wq vf vb lf lb) (ob : Obj) (x : Pla) (ho : w1.ownsRow (S + 1) 36 4 v1 (lf.length + 1) (plcells lf ++ plcell x)) (hg : (wq.alloc ob).grownBy w1 vf.ownBlock) (hk : v1.ownBlock = vf.ownBlock ∨ v1.ownBlock = some (wq.alloc ob).heap.size) :
    SM S W0 a b (w1.setCell ⟨S, 2, none⟩ v1) v1 vb (lf ++ [x]) lb ∧ Blk w1 S 30 #[.int .i64 a, .int .i64 b, vf, vb] ∧ ∀ g t cs, Blk wq g t cs → some g ≠ vf.ownBlock → Blk w1 g t cs := by
  have hq := h.later ((Below.refl _ wq).alloc (Nat.le_refl _) ob)
  exact ⟨hq.front ho hg hk, hq.front0 hg, fun g t cs hb hne => (hb.alloc ob).grown hg hne⟩
theorem SM.pushB (h : SM S W0 a b wq vf vb lf lb) (ob : Obj) (x : Pla) (ho : w1.ownsRow (S + 1) 36 4 v1 (lb.length + 1) (plcells lb ++ plcell x)) (hg : (wq.alloc ob).grownBy w1 vb.ownBlock) (hk : v1.ownBlock = vb.ownBlock ∨ v1.ownBlock = some (wq.alloc ob).heap.size) :
    SM S W0 a b (w1.setCell ⟨S, 3, none⟩ v1) vf v1 lf (lb ++ [x]) ∧ Blk w1 S 30 #[.int .i64 a, .int .i64 b, vf, vb] := by
  have hq := h.later ((Below.refl _ wq).alloc (Nat.le_refl _) ob)
  exact ⟨hq.back ho hg hk, hq.back0 hg⟩
end
/-- A slice value of placed pages. -/
def PlV (w : World) (ok : Nat → Prop) (v : Value) (l : List Pla) : Prop := SlM w ok v l.length (plcells l)
def SheetOk (a b : Int) (lf lb : List Pla) (w : World) (e : Ending) (w' : World) : Prop :=
  ∃ vf vb, e = .returned (.tuple #[.agg #[.int .i64 a, .int .i64 b, vf, vb], .int .i64 0]) ∧ PlV w' (fun g => w.heap.size ≤ g) vf lf ∧ PlV w' (fun g => w.heap.size ≤ g) vb lb ∧ Below w.heap.size w w'
def SheetErr (z : Int) (w : World) (e : Ending) (w' : World) : Prop :=
  e = .returned (.tuple #[.agg #[.int .i64 0, .int .i64 0, .slice none 0 0, .slice none 0 0], .int .i64 z]) ∧ Below w.heap.size w w'
set_option maxRecDepth 100000 in
set_option maxHeartbeats 4000000 in
theorem sheet_bad (I : LayI) (v : Value) (l : List Step) (k : Int) (w : World) (hI : Sv w v l) (hz : impZ I l ≠ 0) :
    Calls Try.prog 10 #[I.val v, .int .i64 k] w (SheetErr (impZ I l) w) := by
  have HI := Lib.hid hI
  obtain ⟨Av, cv, ev⟩ := SlM.form hI
  have HC : Hid (∀ w', Below w.heap.size w w' → Calls Try.prog 29 #[I.val v] w' fun e w'' => e = .returned (.int .i64 (impZ I l)) ∧ Below w'.heap.size w' w'') := fun w' hb => impcheck_any I v l w' (SlM.later HI.out hb)
  have HE : Hid (∀ e w', SheetErr (impZ I l) w e w' = (e = .returned (.tuple #[.agg #[.int .i64 0, .int .i64 0, .slice none 0 0, .slice none 0 0], .int .i64 (impZ I l)]) ∧ Below w.heap.size w w')) := fun _ _ => rfl
  have hz1 : (impZ I l != 0) = true := by simpa using hz
  generalize SheetErr (impZ I l) w = Post at *
  generalize impZ I l = z at *
  unfold LayI.val at *
  obtain ⟨C, R, W, H, hd, fo, sp, mg, cr, sty⟩ := I
  dsimp only at *
  subst ev
  clear hI hz
  generalize l.length = n at *
  have hb0 := Lib.hid (((Below.refl w.heap.size w).alloc (Nat.le_refl _) (Obj.cells #[.int .i64 C, .int .i64 R, .slice Av n cv, .int .i64 W, .int .i64 H, .int .i64 hd, .int .i64 fo, .int .i64 sp, .int .i64 mg, .int .i64 cr, .int .i64 sty] 26)).alloc (by simp) (Obj.cells #[.int .i64 0, .int .i64 0, .slice none 0 0, .slice none 0 0] 30))
  have hbl := Lib.hid (Blk.new (w.alloc (Obj.cells #[.int .i64 C, .int .i64 R, .slice Av n cv, .int .i64 W, .int .i64 H, .int .i64 hd, .int .i64 fo, .int .i64 sp, .int .i64 mg, .int .i64 cr, .int .i64 sty] 26)) 30 #[.int .i64 0, .int .i64 0, .slice none 0 0, .slice none 0 0])
  go_enter Try.func10, Try.ntmps10
  go_wp2_with fail
  refine (HC.out _ hb0.out).mono ?_; rintro e w1 ⟨rfl, hb1⟩
  have x := hbl.out.below hb1 hbl.out.lt
  simp only [World.size_alloc] at x
  have HB := Lib.hid (hb0.out.trans (hb1.mono hb0.out.size))
  have g0 := x.cell 0
  have g1 := x.cell 1
  have g2 := x.cell 2
  have g3 := x.cell 3
  simp only [List.getElem?_toArray, List.getElem?_cons_zero, List.getElem?_cons_succ] at g0 g1 g2 g3
  have f0 := x.frozen 0
  have f1 := x.frozen 1
  have f2 := x.frozen 2
  have f3 := x.frozen 3
  have lt := x.lt
  clear hb1 x
  go_wp2
  refine bodyPost_ret (v := .tuple #[.agg #[.int .i64 0, .int .i64 0, .slice none 0 0, .slice none 0 0], .int .i64 z]) (by simp [results, Try.results10, go_sem, g0, g1, g2, g3, World.cell?_setCell_other, World.cell?_setCell_same]) rfl ?_
  rw [HE.out]
  exact ⟨rfl, (((HB.out.setCell (by simp) _).setCell (by simp) _).setCell (by simp) _).setCell (by simp) _⟩
theorem fam_front (L : Lay) (ps : List Pg) (k : Nat) : (L.frontTo ps k).length ≤ k := by
  induction k with
  | zero => simp [Lay.frontTo]
  | succ k ih => rw [Lay.frontTo_succ, List.length_append]; split <;> simp <;> omega
theorem fam_back (L : Lay) (ps : List Pg) (k : Nat) : (L.backTo ps k).length ≤ k := by
  induction k with
  | zero => simp [Lay.backTo]
  | succ k ih => rw [Lay.backTo_succ, List.length_append]; split <;> simp <;> omega
/-- What one page adds. -/
theorem lists_step (L : Lay) (ps : List Pg) (k : Nat) :
    (L.style = 0 → (pgN ps k).back = true → L.frontTo ps (k + 1) = L.frontTo ps k ∧ L.backTo ps (k + 1) = L.backTo ps k ++ [L.plc k (pgN ps k)]) ∧
    (L.style = 0 → (pgN ps k).back = false → L.frontTo ps (k + 1) = L.frontTo ps k ++ [L.plc k (pgN ps k)] ∧ L.backTo ps (k + 1) = L.backTo ps k) ∧
    (L.style ≠ 0 → L.frontTo ps (k + 1) = L.frontTo ps k ++ [L.plc k (pgN ps k)] ∧ L.backTo ps (k + 1) = L.backTo ps k ++ [L.plc k (pgN ps k)]) := by
  rw [Lay.frontTo_succ, Lay.backTo_succ]
  unfold pgN Lay.inF Lay.inB
  refine ⟨fun h1 h2 => ?_, fun h1 h2 => ?_, fun h1 => ?_⟩
  · rw [h1, h2]; simp
  · rw [h1, h2]; simp
  · have : (L.style == 0) = false := by simpa using h1
    rw [this]; simp
set_option maxRecDepth 100000 in
set_option maxHeartbeats 16000000 in
theorem sheet_ok {L : Lay} {v : Value} {l : List Step} (h : LB L v l) (ok : L.Ok) (hpw : L.pw ≤ 1024) (hph : L.ph ≤ 1024) (k : Nat) (hk : k ≤ (psOf L l).length) (w : World) (hI : Sv w v l)
    (HChk : ∀ w', Below w.heap.size w w' → Calls Try.prog 29 #[layV L v] w' fun e w'' => e = .returned (.int .i64 0) ∧ Below w'.heap.size w' w'') :
    Calls Try.prog 10 #[layV L v, .int .i64 (k : Int)] w (SheetOk L.pw L.ph (L.frontTo (psOf L l) k) (L.backTo (psOf L l) k) w) := by
  have HI := Lib.hid hI
  have HC := Lib.hid HChk
  have HPg : Hid (∀ w', Below w.heap.size w w' → Calls Try.prog 33 #[.agg #[.int .i64 (L.C : Int), .int .i64 (L.R : Int), v]] w' (PagesPost (psOf L l) w')) := fun w' hb => pages_ok L.C L.R v l w' (SlM.later HI.out hb) h.good h.whole
  have HSz : Hid (∀ w', Below w.heap.size w w' → Calls Try.prog 34 #[layV L v] w' fun e w'' => e = .returned (.tuple #[.int .i64 L.pw, .int .i64 L.ph]) ∧ Below w'.heap.size w' w'') := fun w' hb => size_imp h ok.s0 ok.s2 w' (SlM.later HI.out hb)
  have hlen := psOf_length h
  have hinn := (psOf_pages h).inn
  have hPlace : Hid (∀ i, i < (psOf L l).length → ∀ w', Below w.heap.size w w' → Calls Try.prog 35 #[layV L v, .int .i64 ((i : Int) + 1), .agg #[.bool (pgN (psOf L l) i).back, .int .i64 ((pgN (psOf L l) i).col : Int), .int .i64 ((pgN (psOf L l) i).row : Int), .int .i64 ((pgN (psOf L l) i).turn : Int)]] w' (PlacePostI (L.placeB i (pgN (psOf L l) i)) w')) := fun i hi w' hb => by
    have hm : pgN (psOf L l) i ∈ psOf L l := by unfold pgN; rw [List.getD_eq_getElem?_getD, List.getElem?_eq_getElem hi]; exact List.getElem_mem _
    obtain ⟨a1, a2, a3, a4⟩ := hinn _ hm
    exact place_imp h ok i (by omega) _ a4 a1 a2 a3 w' (SlM.later HI.out hb)
  have hBd : Hid (∀ i, i < (psOf L l).length → bxIn (L.placeB i (pgN (psOf L l) i)) 10000 ∧ (pgN (psOf L l) i).turn < 4) := fun i hi => by
    have hm : pgN (psOf L l) i ∈ psOf L l := by unfold pgN; rw [List.getD_eq_getElem?_getD, List.getElem?_eq_getElem hi]; exact List.getElem_mem _
    obtain ⟨a1, a2, a3, a4⟩ := hinn _ hm
    exact ⟨(placeB_bound h ok (by omega) a4 a1 a2).1, a3⟩
  have hPb : Hid (∀ i p, L.placeB i p = ⟨L.sw, L.sh, (L.placeB i p).x, (L.placeB i p).y, (L.placeB i p).w, (L.placeB i p).h⟩) := fun _ _ => rfl
  have hn64 : (psOf L l).length ≤ 64 := by have := ok.cr; omega
  have hpos : 0 < (psOf L l).length := by have := cr_pos h; omega
  obtain ⟨z0, z1, z2, z3⟩ := lay_sizes h
  have hLs : Hid (∀ k, (L.style = 0 → (pgN (psOf L l) k).back = true → L.frontTo (psOf L l) (k + 1) = L.frontTo (psOf L l) k ∧ L.backTo (psOf L l) (k + 1) = L.backTo (psOf L l) k ++ [L.plc k (pgN (psOf L l) k)]) ∧
    (L.style = 0 → (pgN (psOf L l) k).back = false → L.frontTo (psOf L l) (k + 1) = L.frontTo (psOf L l) k ++ [L.plc k (pgN (psOf L l) k)] ∧ L.backTo (psOf L l) (k + 1) = L.backTo (psOf L l) k) ∧
    (L.style ≠ 0 → L.frontTo (psOf L l) (k + 1) = L.frontTo (psOf L l) k ++ [L.plc k (pgN (psOf L l) k)] ∧ L.backTo (psOf L l) (k + 1) = L.backTo (psOf L l) k ++ [L.plc k (pgN (psOf L l) k)])) := fun k => lists_step L (psOf L l) k
  have hPc : Hid (∀ i p, L.plc i p = if L.style = 1 ∧ p.back = true then ⟨(i : Int) + 1, (L.placeB i p).x + L.sw, (L.placeB i p).y, p.turn⟩
    else if L.style = 2 ∧ p.back = true then ⟨(i : Int) + 1, L.sw - (L.placeB i p).x - (L.placeB i p).w, L.sh + (L.sh - (L.placeB i p).y - (L.placeB i p).h), ((p.turn + 2) % 4 : Nat)⟩
    else ⟨(i : Int) + 1, (L.placeB i p).x, (L.placeB i p).y, p.turn⟩) := fun _ _ => rfl
  have hFl : Hid (∀ k, (L.frontTo (psOf L l) k).length ≤ k ∧ (L.backTo (psOf L l) k).length ≤ k) := fun k => ⟨fam_front L _ k, fam_back L _ k⟩
  have hF0 : Hid (L.frontTo (psOf L l) 0 = [] ∧ L.backTo (psOf L l) 0 = []) := ⟨rfl, rfl⟩
  have hsty : L.style = 0 ∨ L.style = 1 ∨ L.style = 2 := by have := ok.s0; have := ok.s2; omega
  have hsw0 : 0 ≤ L.sw ∧ 0 ≤ L.sh := by
    obtain ⟨m0, m1⟩ := mul_bound h.good.c8 z0 z1
    obtain ⟨m2, m3⟩ := mul_bound h.good.r8 z2 z3
    have := h.mg0; unfold Lay.sw Lay.sh; omega
  have hpwe : L.pw = (if L.style = 1 then L.sw * 2 else L.sw) := rfl
  have hphe : L.ph = (if L.style = 2 then L.sh * 2 else L.sh) := rfl
  have hpw0 : 0 ≤ L.pw := by rw [hpwe]; split <;> omega
  have hph0 : 0 ≤ L.ph := by rw [hphe]; split <;> omega
  have HS1 : Hid (L.style = 1 → L.pw / 2 = L.sw) := fun e => by rw [hpwe, if_pos e]; omega
  have HS2 : Hid (L.style = 2 → L.ph / 2 = L.sh) := fun e => by rw [hphe, if_pos e]; omega
  have hswle : L.sw ≤ 1024 := by rw [hpwe] at hpw; split at hpw <;> omega
  have hshle : L.sh ≤ 1024 := by rw [hphe] at hph; split at hph <;> omega
  obtain ⟨hsw1, hsh1⟩ := hsw0
  clear hpwe hphe
  have HE : Hid (∀ e w', SheetOk L.pw L.ph (L.frontTo (psOf L l) k) (L.backTo (psOf L l) k) w e w' = ∃ vf vb, e = .returned (.tuple #[.agg #[.int .i64 L.pw, .int .i64 L.ph, vf, vb], .int .i64 0]) ∧ PlV w' (fun g => w.heap.size ≤ g) vf (L.frontTo (psOf L l) k) ∧ PlV w' (fun g => w.heap.size ≤ g) vb (L.backTo (psOf L l) k) ∧ Below w.heap.size w w') := fun _ _ => rfl
  generalize SheetOk L.pw L.ph (L.frontTo (psOf L l) k) (L.backTo (psOf L l) k) w = Post at *
  obtain ⟨Av, cv, ev⟩ := SlM.form hI
  clear hI HChk h ok hinn z0 z1 z2 z3 hlen
  generalize psOf L l = ps at *
  generalize hff : L.frontTo ps = F at *
  generalize hfb : L.backTo ps = Bk at *
  clear hff hfb
  generalize L.placeB = plB at *
  generalize L.plc = plC at *
  generalize L.pw = pw at *
  generalize L.ph = ph at *
  generalize L.sw = sw at *
  generalize L.sh = sh at *
  unfold layV at *
  obtain ⟨C, R, W, H, hd, fo, sp, mg, cr, sty, od⟩ := L
  dsimp only at *
  subst ev
  generalize l.length = n at *
  generalize hnp : ps.length = np at *
  have HNp := Lib.hid hnp
  clear hnp
  have hb0 := Lib.hid (((Below.refl w.heap.size w).alloc (Nat.le_refl _) (Obj.cells #[.int .i64 (C : Int), .int .i64 (R : Int), .slice Av n cv, .int .i64 W, .int .i64 H, .int .i64 hd, .int .i64 fo, .int .i64 sp, .int .i64 mg, .int .i64 cr, .int .i64 sty] 26)).alloc (by simp) (Obj.cells #[.int .i64 0, .int .i64 0, .slice none 0 0, .slice none 0 0] 30))
  have hbl0 := Lib.hid ((Blk.new w 26 #[.int .i64 (C : Int), .int .i64 (R : Int), .slice Av n cv, .int .i64 W, .int .i64 H, .int .i64 hd, .int .i64 fo, .int .i64 sp, .int .i64 mg, .int .i64 cr, .int .i64 sty]).alloc (Obj.cells #[.int .i64 0, .int .i64 0, .slice none 0 0, .slice none 0 0] 30))
  have hbl := Lib.hid (Blk.new (w.alloc (Obj.cells #[.int .i64 (C : Int), .int .i64 (R : Int), .slice Av n cv, .int .i64 W, .int .i64 H, .int .i64 hd, .int .i64 fo, .int .i64 sp, .int .i64 mg, .int .i64 cr, .int .i64 sty] 26)) 30 #[.int .i64 0, .int .i64 0, .slice none 0 0, .slice none 0 0])
  go_enter Try.func10, Try.ntmps10
  go_wp2_with fail
  refine (HC.out _ hb0.out).mono ?_; rintro e w1 ⟨rfl, hb1⟩
  have x := hbl.out.below hb1 hbl.out.lt
  simp only [World.size_alloc] at x
  have x0 := hbl0.out.below hb1 hbl0.out.lt
  have HB := Lib.hid (hb0.out.trans (hb1.mono hb0.out.size))
  have c0 := x0.cell 0
  have c1 := x0.cell 1
  have c2 := x0.cell 2
  simp only [List.getElem?_toArray, List.getElem?_cons_zero, List.getElem?_cons_succ] at c0 c1 c2
  have HX := Lib.hid x
  have HX0 := Lib.hid x0
  clear hb1 x x0
  go_wp2_with fail
  refine (HPg.out _ HB.out).mono ?_; rintro e w2 ⟨vp, rfl, ho, hb2⟩
  obtain ⟨g, cap, rfl, hgl, hcap, _, hcells⟩ := pages_cells ho (by rw [HNp.out]; exact hpos)
  have HX2 := Lib.hid (HX.out.below hb2 HX.out.lt)
  have HX02 := Lib.hid (HX0.out.below hb2 HX0.out.lt)
  have HB2 := Lib.hid (HB.out.trans (hb2.mono HB.out.size))
  have HCe := Lib.hid hcells
  rw [HNp.out] at hcap
  have e2 := HNp.out
  clear hcells ho hb2 c0 c1 c2
  rw [e2]
  clear e2
  have l0 := HX02.out.lt
  have l1 := HX2.out.lt
  have u0 := HX02.out.cell 0
  have u1 := HX02.out.cell 1
  have u2 := HX02.out.cell 2
  have u3 := HX02.out.cell 3
  have u4 := HX02.out.cell 4
  have u5 := HX02.out.cell 5
  have u6 := HX02.out.cell 6
  have u7 := HX02.out.cell 7
  have u8 := HX02.out.cell 8
  have u9 := HX02.out.cell 9
  have u10 := HX02.out.cell 10
  simp only [List.getElem?_toArray, List.getElem?_cons_zero, List.getElem?_cons_succ] at u0 u1 u2 u3 u4 u5 u6 u7 u8 u9 u10
  have hb3 := HB2.out.alloc HB2.out.size (Obj.cells #[.int .i64 0, .int .i64 0, .slice none 0 0, .slice none 0 0] 30)
  have HB3 := Lib.hid hb3
  clear hb3
  go_wp2_with fail
  refine (HSz.out _ HB3.out).mono ?_; rintro e w3 ⟨rfl, hb3⟩
  have y := (Blk.new w2 30 #[.int .i64 0, .int .i64 0, .slice none 0 0, .slice none 0 0]).below hb3 (by simp)
  have s0 := y.cell 0
  have s1 := y.cell 1
  simp only [List.getElem?_toArray, List.getElem?_cons_zero, List.getElem?_cons_succ] at s0 s1
  have t0 := y.frozen 0
  have t1 := y.frozen 1
  have ly := y.lt
  have HY := Lib.hid y
  have hb23 := ((Below.refl w2.heap.size w2).alloc (Nat.le_refl _) (Obj.cells #[.int .i64 0, .int .i64 0, .slice none 0 0, .slice none 0 0] 30)).trans (hb3.mono (by simp))
  have HB23 := Lib.hid hb23
  clear y hb3 hb23 u0 u1 u2 u3 u4 u5 u6 u7 u8 u9 u10
  go_wp2
  clear s0 s1 t0 t1 l1
  go_loopw [46] (fun vi wr => ∃ (i : Nat) (vf vb : Value), i ≤ k ∧ vi = .int .i64 i ∧ SM w2.heap.size w2 pw ph wr vf vb (F i) (Bk i)) (fun i _ => k - (intOf i).toNat)
  case atStart =>
    refine ⟨0, .slice none 0 0, .slice none 0 0, by omega, rfl, ?_⟩
    rw [hF0.out.1, hF0.out.2]
    refine ⟨?_, ⟨rfl, .inl ⟨rfl, rfl⟩⟩, ⟨rfl, .inl ⟨rfl, rfl⟩⟩, fun k hk => by simp [Value.ownBlock] at hk, ?_, Nat.le_refl _⟩
    · have := (HY.out.put 0 (.int .i64 pw)).put 1 (.int .i64 ph); simpa using this
    · exact (HB23.out.setCell (by simp) _).setCell (by simp) _
  case round =>
    obtain ⟨i, vf, vb, hi, rfl, hm⟩ := hrel
    by_cases hlt : i < k
    · obtain ⟨q0, q1, q2, q3⟩ := HCe.out i (by rw [HNp.out]; omega)
      have d0 := (hm.be.cell (p := ⟨g, i * 4, none⟩) hgl).trans q0
      have d1 := (hm.be.cell (p := ⟨g, i * 4 + 1, none⟩) hgl).trans q1
      have d2 := (hm.be.cell (p := ⟨g, i * 4 + 2, none⟩) hgl).trans q2
      have d3 := (hm.be.cell (p := ⟨g, i * 4 + 3, none⟩) hgl).trans q3
      obtain ⟨hbx, htn⟩ := hBd.out i (by omega)
      have hw2 : Below w.heap.size w wr := HB2.out.trans (hm.be.mono HB2.out.size)
      have HW2 := Lib.hid hw2
      have hx0 := HX02.out.below hm.be l0
      have HX0r := Lib.hid hx0
      have l0r := hx0.lt
      have lgr : g < wr.heap.size := by have := hm.be.size; omega
      have lSr : w2.heap.size < wr.heap.size := hm.bs.lt
      have HPl : Hid (∀ w', Below w.heap.size w w' → Calls Try.prog 35 #[.agg #[.int .i64 (C : Int), .int .i64 (R : Int), .slice Av n cv, .int .i64 W, .int .i64 H, .int .i64 hd, .int .i64 fo, .int .i64 sp, .int .i64 mg, .int .i64 cr, .int .i64 sty], .int .i64 ((i : Int) + 1), .agg #[.bool (pgN ps i).back, .int .i64 ((pgN ps i).col : Int), .int .i64 ((pgN ps i).row : Int), .int .i64 ((pgN ps i).turn : Int)]] w' fun e w'' => e = .returned (.agg #[.int .i64 sw, .int .i64 sh, .int .i64 (plB i (pgN ps i)).x, .int .i64 (plB i (pgN ps i)).y, .int .i64 (plB i (pgN ps i)).w, .int .i64 (plB i (pgN ps i)).h]) ∧ Below w'.heap.size w' w'') := fun w' hb => (hPlace.out i (by omega) w' hb).mono fun e w'' h' => by
        obtain ⟨h1, h2⟩ := h'
        rw [hPb.out] at h1
        exact ⟨h1, h2⟩
      have HLs := Lib.hid (hLs.out i)
      have HPc := Lib.hid (hPc.out i (pgN ps i))
      obtain ⟨hfl, hbl'⟩ := hFl.out i
      have HM := Lib.hid hm
      have u0 := hx0.cell 0
      have u1 := hx0.cell 1
      have u2 := hx0.cell 2
      have u3 := hx0.cell 3
      have u4 := hx0.cell 4
      have u5 := hx0.cell 5
      have u6 := hx0.cell 6
      have u7 := hx0.cell 7
      have u8 := hx0.cell 8
      have u9 := hx0.cell 9
      have u10 := hx0.cell 10
      simp only [List.getElem?_toArray, List.getElem?_cons_zero, List.getElem?_cons_succ] at u0 u1 u2 u3 u4 u5 u6 u7 u8 u9 u10
      clear q0 q1 q2 q3 hm hx0 hw2
      unfold bxIn at hbx
      rw [hPb.out] at hbx
      dsimp only at hbx
      obtain ⟨n0, n1, n2, n3, n4, n5, n6, n7, n8, n9, n10, n11⟩ := hbx
      generalize (plB i (pgN ps i)).x = bx at *
      generalize (plB i (pgN ps i)).y = by_ at *
      generalize (plB i (pgN ps i)).w = bw at *
      generalize (plB i (pgN ps i)).h = bh at *
      generalize plC i (pgN ps i) = pl at *
      generalize pgN ps i = pg at *
      obtain ⟨pk, pc, pr, pt⟩ := pg
      dsimp only at d0 d1 d2 d3 htn
      have hb4 := HW2.out.alloc HW2.out.size (Obj.cells #[.bool pk, .int .i64 (pc : Int), .int .i64 (pr : Int), .int .i64 (pt : Int)] 86)
      have HB4 := Lib.hid hb4
      clear hb4
      go_wp2_with fail
      refine (HPl.out _ HB4.out).mono ?_; rintro e w5 ⟨rfl, hb5⟩
      have hwb := ((Below.refl wr.heap.size wr).alloc (Nat.le_refl _) (Obj.cells #[.bool pk, .int .i64 (pc : Int), .int .i64 (pr : Int), .int .i64 (pt : Int)] 86)).trans (hb5.mono (by simp))
      have hm5 := HM.out.later hwb
      have k0 := HX0r.out.below hwb l0r
      have k1 := (Blk.new wr 86 #[.bool pk, .int .i64 (pc : Int), .int .i64 (pr : Int), .int .i64 (pt : Int)]).below hb5 (by simp)
      have HM5 := Lib.hid hm5
      have HK0 := Lib.hid k0
      have HK1 := Lib.hid k1
      have lP := k1.lt
      have l05 := k0.lt
      have lS5 := hm5.bs.lt
      have lwr : wr.heap.size < w5.heap.size := lP
      have ust := k0.cell 10
      have e0 := k1.cell 0
      have e3 := k1.cell 3
      simp only [List.getElem?_toArray, List.getElem?_cons_zero, List.getElem?_cons_succ] at ust e0 e3
      clear u0 u1 u2 u3 u4 u5 u6 u7 u8 u9 u10 d0 d1 d2 d3 hwb hm5 k0 k1 hb5
      have hc6 : (sty = 0 ∧ pk = true) ∨ (sty = 0 ∧ pk = false) ∨ (sty = 1 ∧ pk = true) ∨ (sty = 1 ∧ pk = false) ∨ (sty = 2 ∧ pk = true) ∨ (sty = 2 ∧ pk = false) := by
        rcases hsty with h | h | h <;> cases pk <;> simp [h]
      rcases hc6 with ⟨rfl, rfl⟩ | ⟨rfl, rfl⟩ | ⟨rfl, rfl⟩ | ⟨rfl, rfl⟩ | ⟨rfl, rfl⟩ | ⟨rfl, rfl⟩
      ·
        go_upto_region 15 with (fail)
        have hmq : SM w2.heap.size w2 pw ph ((w5.alloc (Obj.cells #[.int .i64 sw, .int .i64 sh, .int .i64 bx, .int .i64 by_, .int .i64 bw, .int .i64 bh] 88)).alloc (Obj.cells #[.int .i64 ((i : Int) + 1), .int .i64 (bx), .int .i64 (by_), .int .i64 ((pt : Int))] 36)) vf vb (F i) (Bk i) := HM5.out.later (((Below.refl w5.heap.size w5).alloc (Nat.le_refl _) (Obj.cells #[.int .i64 sw, .int .i64 sh, .int .i64 bx, .int .i64 by_, .int .i64 bw, .int .i64 bh] 88)).alloc (by simp) (Obj.cells #[.int .i64 ((i : Int) + 1), .int .i64 (bx), .int .i64 (by_), .int .i64 ((pt : Int))] 36))
        have xb : Blk ((w5.alloc (Obj.cells #[.int .i64 sw, .int .i64 sh, .int .i64 bx, .int .i64 by_, .int .i64 bw, .int .i64 bh] 88)).alloc (Obj.cells #[.int .i64 ((i : Int) + 1), .int .i64 (bx), .int .i64 (by_), .int .i64 ((pt : Int))] 36)) (w5.heap.size + 1) 36 #[.int .i64 ((i : Int) + 1), .int .i64 (bx), .int .i64 (by_), .int .i64 ((pt : Int))] := by have := Blk.new (w5.alloc (Obj.cells #[.int .i64 sw, .int .i64 sh, .int .i64 bx, .int .i64 by_, .int .i64 bw, .int .i64 bh] 88)) 36 #[.int .i64 ((i : Int) + 1), .int .i64 (bx), .int .i64 (by_), .int .i64 ((pt : Int))]; simpa using this
        have kb : Blk ((w5.alloc (Obj.cells #[.int .i64 sw, .int .i64 sh, .int .i64 bx, .int .i64 by_, .int .i64 bw, .int .i64 bh] 88)).alloc (Obj.cells #[.int .i64 ((i : Int) + 1), .int .i64 (bx), .int .i64 (by_), .int .i64 ((pt : Int))] 36)) w.heap.size 26 #[.int .i64 (C : Int), .int .i64 (R : Int), .slice Av n cv, .int .i64 W, .int .i64 H, .int .i64 hd, .int .i64 fo, .int .i64 sp, .int .i64 mg, .int .i64 cr, .int .i64 0] := HK0.out.below (((Below.refl w5.heap.size w5).alloc (Nat.le_refl _) (Obj.cells #[.int .i64 sw, .int .i64 sh, .int .i64 bx, .int .i64 by_, .int .i64 bw, .int .i64 bh] 88)).alloc (by simp) (Obj.cells #[.int .i64 ((i : Int) + 1), .int .i64 (bx), .int .i64 (by_), .int .i64 ((pt : Int))] 36)) l05
        generalize (w5.alloc (Obj.cells #[.int .i64 sw, .int .i64 sh, .int .i64 bx, .int .i64 by_, .int .i64 bw, .int .i64 bh] 88)).alloc (Obj.cells #[.int .i64 ((i : Int) + 1), .int .i64 (bx), .int .i64 (by_), .int .i64 ((pt : Int))] 36) = wq at *
        have HMq := Lib.hid hmq
        have x0 := xb.cell 0
        have x1 := xb.cell 1
        have x2 := xb.cell 2
        have x3 := xb.cell 3
        have s2 := hmq.bs.cell 2
        have s3 := hmq.bs.cell 3
        have s2f := hmq.bs.frozen 2
        have kc := kb.cell 10
        simp only [List.getElem?_toArray, List.getElem?_cons_zero, List.getElem?_cons_succ] at x0 x1 x2 x3 s2 s3 kc
        have lx := xb.lt
        have ls := hmq.bs.lt
        have lk := kb.lt
        have HXb := Lib.hid xb
        have HKb := Lib.hid kb
        obtain ⟨Af, cf, ef⟩ := own_form hmq.of
        obtain ⟨Ab, cb, eb⟩ := own_form hmq.ob
        have nx : some (w5.heap.size + 1) ≠ vf.ownBlock := own_new HM5.out.of (by omega)
        have nk : some w.heap.size ≠ vf.ownBlock := own_low hmq.of (by omega)
        have HNx := Lib.hid nx
        have HNk := Lib.hid nk
        subst ef
        subst eb
        generalize hlf : (F i).length = nf at *
        generalize hlb : (Bk i).length = nb at *
        clear hmq xb kb nx nk ust e0 e3
        go_wp2_with (at_builtin; go_must (refine wpList_pushk ePla rfl (.tmp 74) (.tmp 76) rfl (w2.heap.size + 1) (.slice Ab nb cb) nb _ rfl ((hlb ▸ HMq.out.ob).alloc _) ⟨wq.heap.size, 0, none⟩ 1 [.int .i64 ((i : Int) + 1), .int .i64 (bx), .int .i64 (by_), .int .i64 ((pt : Int))] rfl rfl (news_new _ _ _ _ (by simp)) (by simp [Value.oneCell']) (by omega) (by omega) (by omega) (by simp; omega) ?_; intro v2 wy hown2 hg2 hk2; obtain ⟨g2, cap2, rfl⟩ := ownsRow_succ hown2; obtain ⟨hsm2, hby⟩ := HMq.out.pushB _ ⟨(i : Int) + 1, bx, by_, (pt : Int)⟩ (by rw [hlb]; exact hown2) hg2 hk2; have HSm2 := Lib.hid hsm2; have zz3 := hby.cell 3; have yy3 := hby.frozen 3; have lzy := hby.lt; simp only [List.getElem?_toArray, List.getElem?_cons_zero, List.getElem?_cons_succ] at zz3; clear hown2 hg2 hk2 hsm2 hby))
        refine ⟨⟨i + 1, .slice Af nf cf, .slice (some ⟨g2, 0, none⟩) (nb + 1) cap2, by omega, by go_num, ?_⟩, by simp [intOf]; omega⟩
        have hl := HLs.out.1 (by first | trivial | rfl) (by first | trivial | rfl)
        have hs := HSm2.out
        have hp := HPc.out
        simp at hp
        rw [hl.1, hl.2, hp]
        exact hs
      ·
        go_upto_region 21 with (fail)
        have hmq : SM w2.heap.size w2 pw ph ((w5.alloc (Obj.cells #[.int .i64 sw, .int .i64 sh, .int .i64 bx, .int .i64 by_, .int .i64 bw, .int .i64 bh] 88)).alloc (Obj.cells #[.int .i64 ((i : Int) + 1), .int .i64 (bx), .int .i64 (by_), .int .i64 ((pt : Int))] 36)) vf vb (F i) (Bk i) := HM5.out.later (((Below.refl w5.heap.size w5).alloc (Nat.le_refl _) (Obj.cells #[.int .i64 sw, .int .i64 sh, .int .i64 bx, .int .i64 by_, .int .i64 bw, .int .i64 bh] 88)).alloc (by simp) (Obj.cells #[.int .i64 ((i : Int) + 1), .int .i64 (bx), .int .i64 (by_), .int .i64 ((pt : Int))] 36))
        have xb : Blk ((w5.alloc (Obj.cells #[.int .i64 sw, .int .i64 sh, .int .i64 bx, .int .i64 by_, .int .i64 bw, .int .i64 bh] 88)).alloc (Obj.cells #[.int .i64 ((i : Int) + 1), .int .i64 (bx), .int .i64 (by_), .int .i64 ((pt : Int))] 36)) (w5.heap.size + 1) 36 #[.int .i64 ((i : Int) + 1), .int .i64 (bx), .int .i64 (by_), .int .i64 ((pt : Int))] := by have := Blk.new (w5.alloc (Obj.cells #[.int .i64 sw, .int .i64 sh, .int .i64 bx, .int .i64 by_, .int .i64 bw, .int .i64 bh] 88)) 36 #[.int .i64 ((i : Int) + 1), .int .i64 (bx), .int .i64 (by_), .int .i64 ((pt : Int))]; simpa using this
        have kb : Blk ((w5.alloc (Obj.cells #[.int .i64 sw, .int .i64 sh, .int .i64 bx, .int .i64 by_, .int .i64 bw, .int .i64 bh] 88)).alloc (Obj.cells #[.int .i64 ((i : Int) + 1), .int .i64 (bx), .int .i64 (by_), .int .i64 ((pt : Int))] 36)) w.heap.size 26 #[.int .i64 (C : Int), .int .i64 (R : Int), .slice Av n cv, .int .i64 W, .int .i64 H, .int .i64 hd, .int .i64 fo, .int .i64 sp, .int .i64 mg, .int .i64 cr, .int .i64 0] := HK0.out.below (((Below.refl w5.heap.size w5).alloc (Nat.le_refl _) (Obj.cells #[.int .i64 sw, .int .i64 sh, .int .i64 bx, .int .i64 by_, .int .i64 bw, .int .i64 bh] 88)).alloc (by simp) (Obj.cells #[.int .i64 ((i : Int) + 1), .int .i64 (bx), .int .i64 (by_), .int .i64 ((pt : Int))] 36)) l05
        generalize (w5.alloc (Obj.cells #[.int .i64 sw, .int .i64 sh, .int .i64 bx, .int .i64 by_, .int .i64 bw, .int .i64 bh] 88)).alloc (Obj.cells #[.int .i64 ((i : Int) + 1), .int .i64 (bx), .int .i64 (by_), .int .i64 ((pt : Int))] 36) = wq at *
        have HMq := Lib.hid hmq
        have x0 := xb.cell 0
        have x1 := xb.cell 1
        have x2 := xb.cell 2
        have x3 := xb.cell 3
        have s2 := hmq.bs.cell 2
        have s3 := hmq.bs.cell 3
        have s2f := hmq.bs.frozen 2
        have kc := kb.cell 10
        simp only [List.getElem?_toArray, List.getElem?_cons_zero, List.getElem?_cons_succ] at x0 x1 x2 x3 s2 s3 kc
        have lx := xb.lt
        have ls := hmq.bs.lt
        have lk := kb.lt
        have HXb := Lib.hid xb
        have HKb := Lib.hid kb
        obtain ⟨Af, cf, ef⟩ := own_form hmq.of
        obtain ⟨Ab, cb, eb⟩ := own_form hmq.ob
        have nx : some (w5.heap.size + 1) ≠ vf.ownBlock := own_new HM5.out.of (by omega)
        have nk : some w.heap.size ≠ vf.ownBlock := own_low hmq.of (by omega)
        have HNx := Lib.hid nx
        have HNk := Lib.hid nk
        subst ef
        subst eb
        generalize hlf : (F i).length = nf at *
        generalize hlb : (Bk i).length = nb at *
        clear hmq xb kb nx nk ust e0 e3
        go_wp2_with (at_builtin; go_must (refine wpList_pushk ePla rfl (.tmp 120) (.tmp 122) rfl (w2.heap.size + 1) (.slice Af nf cf) nf _ rfl ((hlf ▸ HMq.out.of).alloc _) ⟨wq.heap.size, 0, none⟩ 1 [.int .i64 ((i : Int) + 1), .int .i64 (bx), .int .i64 (by_), .int .i64 ((pt : Int))] rfl rfl (news_new _ _ _ _ rfl) (by simp [Value.oneCell']) (by omega) (by omega) (by omega) (by simp; omega) ?_; intro v1 wz hown1 hg1 hk1; obtain ⟨g1, cap1, rfl⟩ := ownsRow_succ hown1; obtain ⟨hsm, hbz, hkeep⟩ := HMq.out.pushF _ ⟨(i : Int) + 1, bx, by_, (pt : Int)⟩ (by rw [hlf]; exact hown1) hg1 hk1; have HSm := Lib.hid hsm; have z2 := hbz.cell 2; have y2 := hbz.frozen 2; have lz := hbz.lt; have z3 := hbz.cell 3; simp only [List.getElem?_toArray, List.getElem?_cons_zero, List.getElem?_cons_succ] at z2 z3; have xz := hkeep _ _ _ HXb.out HNx.out; have kz := hkeep _ _ _ HKb.out HNk.out; have HXz := Lib.hid xz; have w0' := xz.cell 0; have w1' := xz.cell 1; have w2' := xz.cell 2; have w3' := xz.cell 3; have kz10 := kz.cell 10; simp only [List.getElem?_toArray, List.getElem?_cons_zero, List.getElem?_cons_succ] at w0' w1' w2' w3' kz10; have lxz := xz.lt; have lkz := kz.lt; clear hown1 hg1 hk1 hsm hbz hkeep xz kz))
        refine ⟨⟨i + 1, .slice (some ⟨g1, 0, none⟩) (nf + 1) cap1, .slice Ab nb cb, by omega, by go_num, ?_⟩, by simp [intOf]; omega⟩
        have hl := HLs.out.2.1 (by first | trivial | rfl) (by first | trivial | rfl)
        have hs := HSm.out
        have hp := HPc.out
        simp at hp
        rw [hl.1, hl.2, hp]
        exact hs
      ·
        have sp0 := HM5.out.bs.cell 0
        simp only [List.getElem?_toArray, List.getElem?_cons_zero] at sp0
        have hp2 := HS1.out rfl
        go_upto_region 21 with (fail)
        clear sp0 hp2
        have hmq : SM w2.heap.size w2 pw ph ((w5.alloc (Obj.cells #[.int .i64 sw, .int .i64 sh, .int .i64 bx, .int .i64 by_, .int .i64 bw, .int .i64 bh] 88)).alloc (Obj.cells #[.int .i64 ((i : Int) + 1), .int .i64 (bx + sw), .int .i64 (by_), .int .i64 ((pt : Int))] 36)) vf vb (F i) (Bk i) := HM5.out.later (((Below.refl w5.heap.size w5).alloc (Nat.le_refl _) (Obj.cells #[.int .i64 sw, .int .i64 sh, .int .i64 bx, .int .i64 by_, .int .i64 bw, .int .i64 bh] 88)).alloc (by simp) (Obj.cells #[.int .i64 ((i : Int) + 1), .int .i64 (bx + sw), .int .i64 (by_), .int .i64 ((pt : Int))] 36))
        have xb : Blk ((w5.alloc (Obj.cells #[.int .i64 sw, .int .i64 sh, .int .i64 bx, .int .i64 by_, .int .i64 bw, .int .i64 bh] 88)).alloc (Obj.cells #[.int .i64 ((i : Int) + 1), .int .i64 (bx + sw), .int .i64 (by_), .int .i64 ((pt : Int))] 36)) (w5.heap.size + 1) 36 #[.int .i64 ((i : Int) + 1), .int .i64 (bx + sw), .int .i64 (by_), .int .i64 ((pt : Int))] := by have := Blk.new (w5.alloc (Obj.cells #[.int .i64 sw, .int .i64 sh, .int .i64 bx, .int .i64 by_, .int .i64 bw, .int .i64 bh] 88)) 36 #[.int .i64 ((i : Int) + 1), .int .i64 (bx + sw), .int .i64 (by_), .int .i64 ((pt : Int))]; simpa using this
        have kb : Blk ((w5.alloc (Obj.cells #[.int .i64 sw, .int .i64 sh, .int .i64 bx, .int .i64 by_, .int .i64 bw, .int .i64 bh] 88)).alloc (Obj.cells #[.int .i64 ((i : Int) + 1), .int .i64 (bx + sw), .int .i64 (by_), .int .i64 ((pt : Int))] 36)) w.heap.size 26 #[.int .i64 (C : Int), .int .i64 (R : Int), .slice Av n cv, .int .i64 W, .int .i64 H, .int .i64 hd, .int .i64 fo, .int .i64 sp, .int .i64 mg, .int .i64 cr, .int .i64 1] := HK0.out.below (((Below.refl w5.heap.size w5).alloc (Nat.le_refl _) (Obj.cells #[.int .i64 sw, .int .i64 sh, .int .i64 bx, .int .i64 by_, .int .i64 bw, .int .i64 bh] 88)).alloc (by simp) (Obj.cells #[.int .i64 ((i : Int) + 1), .int .i64 (bx + sw), .int .i64 (by_), .int .i64 ((pt : Int))] 36)) l05
        generalize (w5.alloc (Obj.cells #[.int .i64 sw, .int .i64 sh, .int .i64 bx, .int .i64 by_, .int .i64 bw, .int .i64 bh] 88)).alloc (Obj.cells #[.int .i64 ((i : Int) + 1), .int .i64 (bx + sw), .int .i64 (by_), .int .i64 ((pt : Int))] 36) = wq at *
        have HMq := Lib.hid hmq
        have x0 := xb.cell 0
        have x1 := xb.cell 1
        have x2 := xb.cell 2
        have x3 := xb.cell 3
        have s2 := hmq.bs.cell 2
        have s3 := hmq.bs.cell 3
        have s2f := hmq.bs.frozen 2
        have kc := kb.cell 10
        simp only [List.getElem?_toArray, List.getElem?_cons_zero, List.getElem?_cons_succ] at x0 x1 x2 x3 s2 s3 kc
        have lx := xb.lt
        have ls := hmq.bs.lt
        have lk := kb.lt
        have HXb := Lib.hid xb
        have HKb := Lib.hid kb
        obtain ⟨Af, cf, ef⟩ := own_form hmq.of
        obtain ⟨Ab, cb, eb⟩ := own_form hmq.ob
        have nx : some (w5.heap.size + 1) ≠ vf.ownBlock := own_new HM5.out.of (by omega)
        have nk : some w.heap.size ≠ vf.ownBlock := own_low hmq.of (by omega)
        have HNx := Lib.hid nx
        have HNk := Lib.hid nk
        subst ef
        subst eb
        generalize hlf : (F i).length = nf at *
        generalize hlb : (Bk i).length = nb at *
        clear hmq xb kb nx nk ust e0 e3
        go_wp2_with (first
          | (at_builtin; (refine wpList_pushk ePla rfl (.tmp 120) (.tmp 122) rfl (w2.heap.size + 1) (.slice Af nf cf) nf _ rfl ((hlf ▸ HMq.out.of).alloc _) ⟨wq.heap.size, 0, none⟩ 1 [.int .i64 ((i : Int) + 1), .int .i64 (bx + sw), .int .i64 (by_), .int .i64 ((pt : Int))] rfl rfl (news_new _ _ _ _ rfl) (by simp [Value.oneCell']) (by omega) (by omega) (by omega) (by simp; omega) ?_; intro v1 wz hown1 hg1 hk1; obtain ⟨g1, cap1, rfl⟩ := ownsRow_succ hown1; obtain ⟨hsm, hbz, hkeep⟩ := HMq.out.pushF _ ⟨(i : Int) + 1, bx + sw, by_, (pt : Int)⟩ (by rw [hlf]; exact hown1) hg1 hk1; have HSm := Lib.hid hsm; have z2 := hbz.cell 2; have y2 := hbz.frozen 2; have lz := hbz.lt; have z3 := hbz.cell 3; simp only [List.getElem?_toArray, List.getElem?_cons_zero, List.getElem?_cons_succ] at z2 z3; have xz := hkeep _ _ _ HXb.out HNx.out; have kz := hkeep _ _ _ HKb.out HNk.out; have HXz := Lib.hid xz; have w0' := xz.cell 0; have w1' := xz.cell 1; have w2' := xz.cell 2; have w3' := xz.cell 3; have kz10 := kz.cell 10; simp only [List.getElem?_toArray, List.getElem?_cons_zero, List.getElem?_cons_succ] at w0' w1' w2' w3' kz10; have lxz := xz.lt; have lkz := kz.lt; clear hown1 hg1 hk1 hsm hbz hkeep xz kz))
          | (at_builtin; (refine wpList_pushk ePla rfl (.tmp 129) (.tmp 131) rfl (w2.heap.size + 1) (.slice Ab nb cb) nb _ rfl ((hlb ▸ HSm.out.ob).alloc _) ⟨wz.heap.size, 0, none⟩ 1 [.int .i64 ((i : Int) + 1), .int .i64 (bx + sw), .int .i64 (by_), .int .i64 ((pt : Int))] rfl rfl (news_new _ _ _ _ (by simp)) (by simp [Value.oneCell']) (by omega) (by omega) (by omega) (by simp; omega) ?_; intro v2 wy hown2 hg2 hk2; obtain ⟨g2, cap2, rfl⟩ := ownsRow_succ hown2; obtain ⟨hsm2, hby⟩ := HSm.out.pushB _ ⟨(i : Int) + 1, bx + sw, by_, (pt : Int)⟩ (by rw [hlb]; exact hown2) hg2 hk2; have HSm2 := Lib.hid hsm2; have zz3 := hby.cell 3; have yy3 := hby.frozen 3; have lzy := hby.lt; simp only [List.getElem?_toArray, List.getElem?_cons_zero, List.getElem?_cons_succ] at zz3; clear hown2 hg2 hk2 hsm2 hby)))
        refine ⟨⟨i + 1, .slice (some ⟨g1, 0, none⟩) (nf + 1) cap1, .slice (some ⟨g2, 0, none⟩) (nb + 1) cap2, by omega, by go_num, ?_⟩, by simp [intOf]; omega⟩
        have hl := HLs.out.2.2 (by decide)
        have hs := HSm2.out
        have hp := HPc.out
        simp at hp
        rw [hl.1, hl.2, hp]
        exact hs
      ·
        go_upto_region 21 with (fail)
        have hmq : SM w2.heap.size w2 pw ph ((w5.alloc (Obj.cells #[.int .i64 sw, .int .i64 sh, .int .i64 bx, .int .i64 by_, .int .i64 bw, .int .i64 bh] 88)).alloc (Obj.cells #[.int .i64 ((i : Int) + 1), .int .i64 (bx), .int .i64 (by_), .int .i64 ((pt : Int))] 36)) vf vb (F i) (Bk i) := HM5.out.later (((Below.refl w5.heap.size w5).alloc (Nat.le_refl _) (Obj.cells #[.int .i64 sw, .int .i64 sh, .int .i64 bx, .int .i64 by_, .int .i64 bw, .int .i64 bh] 88)).alloc (by simp) (Obj.cells #[.int .i64 ((i : Int) + 1), .int .i64 (bx), .int .i64 (by_), .int .i64 ((pt : Int))] 36))
        have xb : Blk ((w5.alloc (Obj.cells #[.int .i64 sw, .int .i64 sh, .int .i64 bx, .int .i64 by_, .int .i64 bw, .int .i64 bh] 88)).alloc (Obj.cells #[.int .i64 ((i : Int) + 1), .int .i64 (bx), .int .i64 (by_), .int .i64 ((pt : Int))] 36)) (w5.heap.size + 1) 36 #[.int .i64 ((i : Int) + 1), .int .i64 (bx), .int .i64 (by_), .int .i64 ((pt : Int))] := by have := Blk.new (w5.alloc (Obj.cells #[.int .i64 sw, .int .i64 sh, .int .i64 bx, .int .i64 by_, .int .i64 bw, .int .i64 bh] 88)) 36 #[.int .i64 ((i : Int) + 1), .int .i64 (bx), .int .i64 (by_), .int .i64 ((pt : Int))]; simpa using this
        have kb : Blk ((w5.alloc (Obj.cells #[.int .i64 sw, .int .i64 sh, .int .i64 bx, .int .i64 by_, .int .i64 bw, .int .i64 bh] 88)).alloc (Obj.cells #[.int .i64 ((i : Int) + 1), .int .i64 (bx), .int .i64 (by_), .int .i64 ((pt : Int))] 36)) w.heap.size 26 #[.int .i64 (C : Int), .int .i64 (R : Int), .slice Av n cv, .int .i64 W, .int .i64 H, .int .i64 hd, .int .i64 fo, .int .i64 sp, .int .i64 mg, .int .i64 cr, .int .i64 1] := HK0.out.below (((Below.refl w5.heap.size w5).alloc (Nat.le_refl _) (Obj.cells #[.int .i64 sw, .int .i64 sh, .int .i64 bx, .int .i64 by_, .int .i64 bw, .int .i64 bh] 88)).alloc (by simp) (Obj.cells #[.int .i64 ((i : Int) + 1), .int .i64 (bx), .int .i64 (by_), .int .i64 ((pt : Int))] 36)) l05
        generalize (w5.alloc (Obj.cells #[.int .i64 sw, .int .i64 sh, .int .i64 bx, .int .i64 by_, .int .i64 bw, .int .i64 bh] 88)).alloc (Obj.cells #[.int .i64 ((i : Int) + 1), .int .i64 (bx), .int .i64 (by_), .int .i64 ((pt : Int))] 36) = wq at *
        have HMq := Lib.hid hmq
        have x0 := xb.cell 0
        have x1 := xb.cell 1
        have x2 := xb.cell 2
        have x3 := xb.cell 3
        have s2 := hmq.bs.cell 2
        have s3 := hmq.bs.cell 3
        have s2f := hmq.bs.frozen 2
        have kc := kb.cell 10
        simp only [List.getElem?_toArray, List.getElem?_cons_zero, List.getElem?_cons_succ] at x0 x1 x2 x3 s2 s3 kc
        have lx := xb.lt
        have ls := hmq.bs.lt
        have lk := kb.lt
        have HXb := Lib.hid xb
        have HKb := Lib.hid kb
        obtain ⟨Af, cf, ef⟩ := own_form hmq.of
        obtain ⟨Ab, cb, eb⟩ := own_form hmq.ob
        have nx : some (w5.heap.size + 1) ≠ vf.ownBlock := own_new HM5.out.of (by omega)
        have nk : some w.heap.size ≠ vf.ownBlock := own_low hmq.of (by omega)
        have HNx := Lib.hid nx
        have HNk := Lib.hid nk
        subst ef
        subst eb
        generalize hlf : (F i).length = nf at *
        generalize hlb : (Bk i).length = nb at *
        clear hmq xb kb nx nk ust e0 e3
        go_wp2_with (first
          | (at_builtin; (refine wpList_pushk ePla rfl (.tmp 120) (.tmp 122) rfl (w2.heap.size + 1) (.slice Af nf cf) nf _ rfl ((hlf ▸ HMq.out.of).alloc _) ⟨wq.heap.size, 0, none⟩ 1 [.int .i64 ((i : Int) + 1), .int .i64 (bx), .int .i64 (by_), .int .i64 ((pt : Int))] rfl rfl (news_new _ _ _ _ rfl) (by simp [Value.oneCell']) (by omega) (by omega) (by omega) (by simp; omega) ?_; intro v1 wz hown1 hg1 hk1; obtain ⟨g1, cap1, rfl⟩ := ownsRow_succ hown1; obtain ⟨hsm, hbz, hkeep⟩ := HMq.out.pushF _ ⟨(i : Int) + 1, bx, by_, (pt : Int)⟩ (by rw [hlf]; exact hown1) hg1 hk1; have HSm := Lib.hid hsm; have z2 := hbz.cell 2; have y2 := hbz.frozen 2; have lz := hbz.lt; have z3 := hbz.cell 3; simp only [List.getElem?_toArray, List.getElem?_cons_zero, List.getElem?_cons_succ] at z2 z3; have xz := hkeep _ _ _ HXb.out HNx.out; have kz := hkeep _ _ _ HKb.out HNk.out; have HXz := Lib.hid xz; have w0' := xz.cell 0; have w1' := xz.cell 1; have w2' := xz.cell 2; have w3' := xz.cell 3; have kz10 := kz.cell 10; simp only [List.getElem?_toArray, List.getElem?_cons_zero, List.getElem?_cons_succ] at w0' w1' w2' w3' kz10; have lxz := xz.lt; have lkz := kz.lt; clear hown1 hg1 hk1 hsm hbz hkeep xz kz))
          | (at_builtin; (refine wpList_pushk ePla rfl (.tmp 129) (.tmp 131) rfl (w2.heap.size + 1) (.slice Ab nb cb) nb _ rfl ((hlb ▸ HSm.out.ob).alloc _) ⟨wz.heap.size, 0, none⟩ 1 [.int .i64 ((i : Int) + 1), .int .i64 (bx), .int .i64 (by_), .int .i64 ((pt : Int))] rfl rfl (news_new _ _ _ _ (by simp)) (by simp [Value.oneCell']) (by omega) (by omega) (by omega) (by simp; omega) ?_; intro v2 wy hown2 hg2 hk2; obtain ⟨g2, cap2, rfl⟩ := ownsRow_succ hown2; obtain ⟨hsm2, hby⟩ := HSm.out.pushB _ ⟨(i : Int) + 1, bx, by_, (pt : Int)⟩ (by rw [hlb]; exact hown2) hg2 hk2; have HSm2 := Lib.hid hsm2; have zz3 := hby.cell 3; have yy3 := hby.frozen 3; have lzy := hby.lt; simp only [List.getElem?_toArray, List.getElem?_cons_zero, List.getElem?_cons_succ] at zz3; clear hown2 hg2 hk2 hsm2 hby)))
        refine ⟨⟨i + 1, .slice (some ⟨g1, 0, none⟩) (nf + 1) cap1, .slice (some ⟨g2, 0, none⟩) (nb + 1) cap2, by omega, by go_num, ?_⟩, by simp [intOf]; omega⟩
        have hl := HLs.out.2.2 (by decide)
        have hs := HSm2.out
        have hp := HPc.out
        simp at hp
        rw [hl.1, hl.2, hp]
        exact hs
      ·
        have HTn : Hid (∀ w', Calls Try.prog 36 #[.agg #[.int .i64 sw, .int .i64 sh, .int .i64 bx, .int .i64 by_, .int .i64 bw, .int .i64 bh], .int .i64 2] w' fun e w'' => e = .returned (.agg #[.int .i64 sw, .int .i64 sh, .int .i64 (sw - bx - bw), .int .i64 (sh - by_ - bh), .int .i64 bw, .int .i64 bh]) ∧ Below w'.heap.size w' w'') := fun w' => turned_any ⟨sw, sh, bx, by_, bw, bh⟩ 2 w' (by omega) (by unfold bxIn; dsimp only; omega)
        have hp2 := HS2.out rfl
        go_upto_region 19 with (fail)
        have hmE := HM5.out.later (((Below.refl w5.heap.size w5).alloc (Nat.le_refl _) (Obj.cells #[.int .i64 sw, .int .i64 sh, .int .i64 bx, .int .i64 by_, .int .i64 bw, .int .i64 bh] 88)).alloc (by simp) (Obj.cells #[.int .i64 ((i : Int) + 1), .int .i64 (bx), .int .i64 (by_), .int .i64 ((pt : Int))] 36))
        have bE := ((Blk.new w5 88 #[.int .i64 sw, .int .i64 sh, .int .i64 bx, .int .i64 by_, .int .i64 bw, .int .i64 bh]).alloc (Obj.cells #[.int .i64 ((i : Int) + 1), .int .i64 (bx), .int .i64 (by_), .int .i64 ((pt : Int))] 36))
        have xE : Blk ((w5.alloc (Obj.cells #[.int .i64 sw, .int .i64 sh, .int .i64 bx, .int .i64 by_, .int .i64 bw, .int .i64 bh] 88)).alloc (Obj.cells #[.int .i64 ((i : Int) + 1), .int .i64 (bx), .int .i64 (by_), .int .i64 ((pt : Int))] 36)) (w5.heap.size + 1) 36 #[.int .i64 ((i : Int) + 1), .int .i64 (bx), .int .i64 (by_), .int .i64 ((pt : Int))] := by have := Blk.new (w5.alloc (Obj.cells #[.int .i64 sw, .int .i64 sh, .int .i64 bx, .int .i64 by_, .int .i64 bw, .int .i64 bh] 88)) 36 #[.int .i64 ((i : Int) + 1), .int .i64 (bx), .int .i64 (by_), .int .i64 ((pt : Int))]; simpa using this
        have pE := HK1.out.below (((Below.refl w5.heap.size w5).alloc (Nat.le_refl _) (Obj.cells #[.int .i64 sw, .int .i64 sh, .int .i64 bx, .int .i64 by_, .int .i64 bw, .int .i64 bh] 88)).alloc (by simp) (Obj.cells #[.int .i64 ((i : Int) + 1), .int .i64 (bx), .int .i64 (by_), .int .i64 ((pt : Int))] 36)) lP
        have kE := HK0.out.below (((Below.refl w5.heap.size w5).alloc (Nat.le_refl _) (Obj.cells #[.int .i64 sw, .int .i64 sh, .int .i64 bx, .int .i64 by_, .int .i64 bw, .int .i64 bh] 88)).alloc (by simp) (Obj.cells #[.int .i64 ((i : Int) + 1), .int .i64 (bx), .int .i64 (by_), .int .i64 ((pt : Int))] 36)) l05
        generalize (w5.alloc (Obj.cells #[.int .i64 sw, .int .i64 sh, .int .i64 bx, .int .i64 by_, .int .i64 bw, .int .i64 bh] 88)).alloc (Obj.cells #[.int .i64 ((i : Int) + 1), .int .i64 (bx), .int .i64 (by_), .int .i64 ((pt : Int))] 36) = wr5 at *
        have b0 := bE.cell 0
        have b1 := bE.cell 1
        have b2 := bE.cell 2
        have b3 := bE.cell 3
        have b4 := bE.cell 4
        have b5 := bE.cell 5
        simp only [List.getElem?_toArray, List.getElem?_cons_zero, List.getElem?_cons_succ] at b0 b1 b2 b3 b4 b5
        have lb5 := bE.lt
        have HmE := Lib.hid hmE
        have HbE := Lib.hid bE
        have HxE := Lib.hid xE
        have HpE := Lib.hid pE
        have HkE := Lib.hid kE
        have lx5 := xE.lt
        clear hmE bE xE pE kE
        go_wp2_with fail
        refine (HTn.out _).mono ?_; rintro e w6 ⟨rfl, hb6⟩
        have hm6 := HmE.out.later hb6
        have b6 := HbE.out.below hb6 lb5
        have x6 := HxE.out.below hb6 lx5
        have p6 := HpE.out.below hb6 HpE.out.lt
        have k6 := HkE.out.below hb6 HkE.out.lt
        clear hb6 b0 b1 b2 b3 b4 b5
        have b0 := b6.cell 0
        have b1 := b6.cell 1
        have b2 := b6.cell 2
        have b3 := b6.cell 3
        have b4 := b6.cell 4
        have b5 := b6.cell 5
        have a0 := x6.cell 0
        have a1 := x6.cell 1
        have a2 := x6.cell 2
        have a3 := x6.cell 3
        have sp1 := hm6.bs.cell 1
        have p3 := p6.cell 3
        simp only [List.getElem?_toArray, List.getElem?_cons_zero, List.getElem?_cons_succ] at b0 b1 b2 b3 b4 b5 a0 a1 a2 a3 sp1 p3
        have bf0 := b6.frozen 0
        have bf1 := b6.frozen 1
        have bf2 := b6.frozen 2
        have bf3 := b6.frozen 3
        have bf4 := b6.frozen 4
        have bf5 := b6.frozen 5
        have af0 := x6.frozen 0
        have af1 := x6.frozen 1
        have af2 := x6.frozen 2
        have af3 := x6.frozen 3
        have lb6 := b6.lt
        have lx6 := x6.lt
        have lS6 := hm6.bs.lt
        have lp6 := p6.lt
        have Hm6 := Lib.hid hm6
        have Hb6 := Lib.hid b6
        have Hx6 := Lib.hid x6
        have Hk6 := Lib.hid k6
        clear hm6 b6 x6 p6 k6
        go_upto_region 21 with (fail)
        have nE0 : vf.ownBlock ≠ some w5.heap.size := Ne.symm (own_new HM5.out.of (Nat.le_refl _))
        have nE1 : vf.ownBlock ≠ some (w5.heap.size + 1) := Ne.symm (own_new HM5.out.of (by omega))
        have mE0 : vb.ownBlock ≠ some w5.heap.size := Ne.symm (own_new HM5.out.ob (Nat.le_refl _))
        have mE1 : vb.ownBlock ≠ some (w5.heap.size + 1) := Ne.symm (own_new HM5.out.ob (by omega))
        have hmq : SM w2.heap.size w2 pw ph ((((((((((w6.setCell ⟨w5.heap.size, 0, none⟩ (.int .i64 (sw))).setCell ⟨w5.heap.size, 1, none⟩ (.int .i64 (sh))).setCell ⟨w5.heap.size, 2, none⟩ (.int .i64 (sw - bx - bw))).setCell ⟨w5.heap.size, 3, none⟩ (.int .i64 (sh - by_ - bh))).setCell ⟨w5.heap.size, 4, none⟩ (.int .i64 (bw))).setCell ⟨w5.heap.size, 5, none⟩ (.int .i64 (bh))).setCell ⟨w5.heap.size + 1, 0, none⟩ (.int .i64 ((i : Int) + 1))).setCell ⟨w5.heap.size + 1, 1, none⟩ (.int .i64 (sw - bx - bw))).setCell ⟨w5.heap.size + 1, 2, none⟩ (.int .i64 (sh + (sh - by_ - bh)))).setCell ⟨w5.heap.size + 1, 3, none⟩ (.int .i64 (((pt : Int) + 2) % 4))) vf vb (F i) (Bk i) := ((((((((((Hm6.out.far (p := ⟨w5.heap.size, 0, none⟩) (by simp; omega) (by simpa using nE0) (by simpa using mE0) _).far (p := ⟨w5.heap.size, 1, none⟩) (by simp; omega) (by simpa using nE0) (by simpa using mE0) _).far (p := ⟨w5.heap.size, 2, none⟩) (by simp; omega) (by simpa using nE0) (by simpa using mE0) _).far (p := ⟨w5.heap.size, 3, none⟩) (by simp; omega) (by simpa using nE0) (by simpa using mE0) _).far (p := ⟨w5.heap.size, 4, none⟩) (by simp; omega) (by simpa using nE0) (by simpa using mE0) _).far (p := ⟨w5.heap.size, 5, none⟩) (by simp; omega) (by simpa using nE0) (by simpa using mE0) _).far (p := ⟨w5.heap.size + 1, 0, none⟩) (by simp; omega) (by simpa using nE1) (by simpa using mE1) _).far (p := ⟨w5.heap.size + 1, 1, none⟩) (by simp; omega) (by simpa using nE1) (by simpa using mE1) _).far (p := ⟨w5.heap.size + 1, 2, none⟩) (by simp; omega) (by simpa using nE1) (by simpa using mE1) _).far (p := ⟨w5.heap.size + 1, 3, none⟩) (by simp; omega) (by simpa using nE1) (by simpa using mE1) _)
        have xb : Blk ((((((((((w6.setCell ⟨w5.heap.size, 0, none⟩ (.int .i64 (sw))).setCell ⟨w5.heap.size, 1, none⟩ (.int .i64 (sh))).setCell ⟨w5.heap.size, 2, none⟩ (.int .i64 (sw - bx - bw))).setCell ⟨w5.heap.size, 3, none⟩ (.int .i64 (sh - by_ - bh))).setCell ⟨w5.heap.size, 4, none⟩ (.int .i64 (bw))).setCell ⟨w5.heap.size, 5, none⟩ (.int .i64 (bh))).setCell ⟨w5.heap.size + 1, 0, none⟩ (.int .i64 ((i : Int) + 1))).setCell ⟨w5.heap.size + 1, 1, none⟩ (.int .i64 (sw - bx - bw))).setCell ⟨w5.heap.size + 1, 2, none⟩ (.int .i64 (sh + (sh - by_ - bh)))).setCell ⟨w5.heap.size + 1, 3, none⟩ (.int .i64 (((pt : Int) + 2) % 4))) (w5.heap.size + 1) 36 #[.int .i64 ((i : Int) + 1), .int .i64 (sw - bx - bw), .int .i64 (sh + (sh - by_ - bh)), .int .i64 (((pt : Int) + 2) % 4)] := by
          have h := ((((((((((Hx6.out.far (p := ⟨w5.heap.size, 0, none⟩) (by simp) (.int .i64 (sw))).far (p := ⟨w5.heap.size, 1, none⟩) (by simp) (.int .i64 (sh))).far (p := ⟨w5.heap.size, 2, none⟩) (by simp) (.int .i64 (sw - bx - bw))).far (p := ⟨w5.heap.size, 3, none⟩) (by simp) (.int .i64 (sh - by_ - bh))).far (p := ⟨w5.heap.size, 4, none⟩) (by simp) (.int .i64 (bw))).far (p := ⟨w5.heap.size, 5, none⟩) (by simp) (.int .i64 (bh))).put 0 (.int .i64 ((i : Int) + 1))).put 1 (.int .i64 (sw - bx - bw))).put 2 (.int .i64 (sh + (sh - by_ - bh)))).put 3 (.int .i64 (((pt : Int) + 2) % 4)))
          simpa using h
        have kb : Blk ((((((((((w6.setCell ⟨w5.heap.size, 0, none⟩ (.int .i64 (sw))).setCell ⟨w5.heap.size, 1, none⟩ (.int .i64 (sh))).setCell ⟨w5.heap.size, 2, none⟩ (.int .i64 (sw - bx - bw))).setCell ⟨w5.heap.size, 3, none⟩ (.int .i64 (sh - by_ - bh))).setCell ⟨w5.heap.size, 4, none⟩ (.int .i64 (bw))).setCell ⟨w5.heap.size, 5, none⟩ (.int .i64 (bh))).setCell ⟨w5.heap.size + 1, 0, none⟩ (.int .i64 ((i : Int) + 1))).setCell ⟨w5.heap.size + 1, 1, none⟩ (.int .i64 (sw - bx - bw))).setCell ⟨w5.heap.size + 1, 2, none⟩ (.int .i64 (sh + (sh - by_ - bh)))).setCell ⟨w5.heap.size + 1, 3, none⟩ (.int .i64 (((pt : Int) + 2) % 4))) w.heap.size 26 #[.int .i64 (C : Int), .int .i64 (R : Int), .slice Av n cv, .int .i64 W, .int .i64 H, .int .i64 hd, .int .i64 fo, .int .i64 sp, .int .i64 mg, .int .i64 cr, .int .i64 2] := ((((((((((Hk6.out.far (by simp; omega) _).far (by simp; omega) _).far (by simp; omega) _).far (by simp; omega) _).far (by simp; omega) _).far (by simp; omega) _).far (by simp; omega) _).far (by simp; omega) _).far (by simp; omega) _).far (by simp; omega) _)
        clear nE0 nE1 mE0 mE1 b0 b1 b2 b3 b4 b5 a0 a1 a2 a3 sp1 p3 bf0 bf1 bf2 bf3 bf4 bf5 af0 af1 af2 af3 hp2
        generalize (((((((((w6.setCell ⟨w5.heap.size, 0, none⟩ (.int .i64 (sw))).setCell ⟨w5.heap.size, 1, none⟩ (.int .i64 (sh))).setCell ⟨w5.heap.size, 2, none⟩ (.int .i64 (sw - bx - bw))).setCell ⟨w5.heap.size, 3, none⟩ (.int .i64 (sh - by_ - bh))).setCell ⟨w5.heap.size, 4, none⟩ (.int .i64 (bw))).setCell ⟨w5.heap.size, 5, none⟩ (.int .i64 (bh))).setCell ⟨w5.heap.size + 1, 0, none⟩ (.int .i64 ((i : Int) + 1))).setCell ⟨w5.heap.size + 1, 1, none⟩ (.int .i64 (sw - bx - bw))).setCell ⟨w5.heap.size + 1, 2, none⟩ (.int .i64 (sh + (sh - by_ - bh)))).setCell ⟨w5.heap.size + 1, 3, none⟩ (.int .i64 (((pt : Int) + 2) % 4)) = wq at *
        have HMq := Lib.hid hmq
        have x0 := xb.cell 0
        have x1 := xb.cell 1
        have x2 := xb.cell 2
        have x3 := xb.cell 3
        have s2 := hmq.bs.cell 2
        have s3 := hmq.bs.cell 3
        have s2f := hmq.bs.frozen 2
        have kc := kb.cell 10
        simp only [List.getElem?_toArray, List.getElem?_cons_zero, List.getElem?_cons_succ] at x0 x1 x2 x3 s2 s3 kc
        have lx := xb.lt
        have ls := hmq.bs.lt
        have lk := kb.lt
        have HXb := Lib.hid xb
        have HKb := Lib.hid kb
        obtain ⟨Af, cf, ef⟩ := own_form hmq.of
        obtain ⟨Ab, cb, eb⟩ := own_form hmq.ob
        have nx : some (w5.heap.size + 1) ≠ vf.ownBlock := own_new HM5.out.of (by omega)
        have nk : some w.heap.size ≠ vf.ownBlock := own_low hmq.of (by omega)
        have HNx := Lib.hid nx
        have HNk := Lib.hid nk
        subst ef
        subst eb
        generalize hlf : (F i).length = nf at *
        generalize hlb : (Bk i).length = nb at *
        clear hmq xb kb nx nk ust e0 e3
        go_wp2_with (first
          | (at_builtin; (refine wpList_pushk ePla rfl (.tmp 120) (.tmp 122) rfl (w2.heap.size + 1) (.slice Af nf cf) nf _ rfl ((hlf ▸ HMq.out.of).alloc _) ⟨wq.heap.size, 0, none⟩ 1 [.int .i64 ((i : Int) + 1), .int .i64 (sw - bx - bw), .int .i64 (sh + (sh - by_ - bh)), .int .i64 (((pt : Int) + 2) % 4)] rfl rfl (news_new _ _ _ _ rfl) (by simp [Value.oneCell']) (by omega) (by omega) (by omega) (by simp; omega) ?_; intro v1 wz hown1 hg1 hk1; obtain ⟨g1, cap1, rfl⟩ := ownsRow_succ hown1; obtain ⟨hsm, hbz, hkeep⟩ := HMq.out.pushF _ ⟨(i : Int) + 1, sw - bx - bw, sh + (sh - by_ - bh), ((pt : Int) + 2) % 4⟩ (by rw [hlf]; exact hown1) hg1 hk1; have HSm := Lib.hid hsm; have z2 := hbz.cell 2; have y2 := hbz.frozen 2; have lz := hbz.lt; have z3 := hbz.cell 3; simp only [List.getElem?_toArray, List.getElem?_cons_zero, List.getElem?_cons_succ] at z2 z3; have xz := hkeep _ _ _ HXb.out HNx.out; have kz := hkeep _ _ _ HKb.out HNk.out; have HXz := Lib.hid xz; have w0' := xz.cell 0; have w1' := xz.cell 1; have w2' := xz.cell 2; have w3' := xz.cell 3; have kz10 := kz.cell 10; simp only [List.getElem?_toArray, List.getElem?_cons_zero, List.getElem?_cons_succ] at w0' w1' w2' w3' kz10; have lxz := xz.lt; have lkz := kz.lt; clear hown1 hg1 hk1 hsm hbz hkeep xz kz))
          | (at_builtin; (refine wpList_pushk ePla rfl (.tmp 129) (.tmp 131) rfl (w2.heap.size + 1) (.slice Ab nb cb) nb _ rfl ((hlb ▸ HSm.out.ob).alloc _) ⟨wz.heap.size, 0, none⟩ 1 [.int .i64 ((i : Int) + 1), .int .i64 (sw - bx - bw), .int .i64 (sh + (sh - by_ - bh)), .int .i64 (((pt : Int) + 2) % 4)] rfl rfl (news_new _ _ _ _ (by simp)) (by simp [Value.oneCell']) (by omega) (by omega) (by omega) (by simp; omega) ?_; intro v2 wy hown2 hg2 hk2; obtain ⟨g2, cap2, rfl⟩ := ownsRow_succ hown2; obtain ⟨hsm2, hby⟩ := HSm.out.pushB _ ⟨(i : Int) + 1, sw - bx - bw, sh + (sh - by_ - bh), ((pt : Int) + 2) % 4⟩ (by rw [hlb]; exact hown2) hg2 hk2; have HSm2 := Lib.hid hsm2; have zz3 := hby.cell 3; have yy3 := hby.frozen 3; have lzy := hby.lt; simp only [List.getElem?_toArray, List.getElem?_cons_zero, List.getElem?_cons_succ] at zz3; clear hown2 hg2 hk2 hsm2 hby)))
        refine ⟨⟨i + 1, .slice (some ⟨g1, 0, none⟩) (nf + 1) cap1, .slice (some ⟨g2, 0, none⟩) (nb + 1) cap2, by omega, by go_num, ?_⟩, by simp [intOf]; omega⟩
        have hl := HLs.out.2.2 (by decide)
        have hs := HSm2.out
        have hp := HPc.out
        simp at hp
        rw [hl.1, hl.2, hp]
        exact hs
      ·
        go_upto_region 21 with (fail)
        have hmq : SM w2.heap.size w2 pw ph ((w5.alloc (Obj.cells #[.int .i64 sw, .int .i64 sh, .int .i64 bx, .int .i64 by_, .int .i64 bw, .int .i64 bh] 88)).alloc (Obj.cells #[.int .i64 ((i : Int) + 1), .int .i64 (bx), .int .i64 (by_), .int .i64 ((pt : Int))] 36)) vf vb (F i) (Bk i) := HM5.out.later (((Below.refl w5.heap.size w5).alloc (Nat.le_refl _) (Obj.cells #[.int .i64 sw, .int .i64 sh, .int .i64 bx, .int .i64 by_, .int .i64 bw, .int .i64 bh] 88)).alloc (by simp) (Obj.cells #[.int .i64 ((i : Int) + 1), .int .i64 (bx), .int .i64 (by_), .int .i64 ((pt : Int))] 36))
        have xb : Blk ((w5.alloc (Obj.cells #[.int .i64 sw, .int .i64 sh, .int .i64 bx, .int .i64 by_, .int .i64 bw, .int .i64 bh] 88)).alloc (Obj.cells #[.int .i64 ((i : Int) + 1), .int .i64 (bx), .int .i64 (by_), .int .i64 ((pt : Int))] 36)) (w5.heap.size + 1) 36 #[.int .i64 ((i : Int) + 1), .int .i64 (bx), .int .i64 (by_), .int .i64 ((pt : Int))] := by have := Blk.new (w5.alloc (Obj.cells #[.int .i64 sw, .int .i64 sh, .int .i64 bx, .int .i64 by_, .int .i64 bw, .int .i64 bh] 88)) 36 #[.int .i64 ((i : Int) + 1), .int .i64 (bx), .int .i64 (by_), .int .i64 ((pt : Int))]; simpa using this
        have kb : Blk ((w5.alloc (Obj.cells #[.int .i64 sw, .int .i64 sh, .int .i64 bx, .int .i64 by_, .int .i64 bw, .int .i64 bh] 88)).alloc (Obj.cells #[.int .i64 ((i : Int) + 1), .int .i64 (bx), .int .i64 (by_), .int .i64 ((pt : Int))] 36)) w.heap.size 26 #[.int .i64 (C : Int), .int .i64 (R : Int), .slice Av n cv, .int .i64 W, .int .i64 H, .int .i64 hd, .int .i64 fo, .int .i64 sp, .int .i64 mg, .int .i64 cr, .int .i64 2] := HK0.out.below (((Below.refl w5.heap.size w5).alloc (Nat.le_refl _) (Obj.cells #[.int .i64 sw, .int .i64 sh, .int .i64 bx, .int .i64 by_, .int .i64 bw, .int .i64 bh] 88)).alloc (by simp) (Obj.cells #[.int .i64 ((i : Int) + 1), .int .i64 (bx), .int .i64 (by_), .int .i64 ((pt : Int))] 36)) l05
        generalize (w5.alloc (Obj.cells #[.int .i64 sw, .int .i64 sh, .int .i64 bx, .int .i64 by_, .int .i64 bw, .int .i64 bh] 88)).alloc (Obj.cells #[.int .i64 ((i : Int) + 1), .int .i64 (bx), .int .i64 (by_), .int .i64 ((pt : Int))] 36) = wq at *
        have HMq := Lib.hid hmq
        have x0 := xb.cell 0
        have x1 := xb.cell 1
        have x2 := xb.cell 2
        have x3 := xb.cell 3
        have s2 := hmq.bs.cell 2
        have s3 := hmq.bs.cell 3
        have s2f := hmq.bs.frozen 2
        have kc := kb.cell 10
        simp only [List.getElem?_toArray, List.getElem?_cons_zero, List.getElem?_cons_succ] at x0 x1 x2 x3 s2 s3 kc
        have lx := xb.lt
        have ls := hmq.bs.lt
        have lk := kb.lt
        have HXb := Lib.hid xb
        have HKb := Lib.hid kb
        obtain ⟨Af, cf, ef⟩ := own_form hmq.of
        obtain ⟨Ab, cb, eb⟩ := own_form hmq.ob
        have nx : some (w5.heap.size + 1) ≠ vf.ownBlock := own_new HM5.out.of (by omega)
        have nk : some w.heap.size ≠ vf.ownBlock := own_low hmq.of (by omega)
        have HNx := Lib.hid nx
        have HNk := Lib.hid nk
        subst ef
        subst eb
        generalize hlf : (F i).length = nf at *
        generalize hlb : (Bk i).length = nb at *
        clear hmq xb kb nx nk ust e0 e3
        go_wp2_with (first
          | (at_builtin; (refine wpList_pushk ePla rfl (.tmp 120) (.tmp 122) rfl (w2.heap.size + 1) (.slice Af nf cf) nf _ rfl ((hlf ▸ HMq.out.of).alloc _) ⟨wq.heap.size, 0, none⟩ 1 [.int .i64 ((i : Int) + 1), .int .i64 (bx), .int .i64 (by_), .int .i64 ((pt : Int))] rfl rfl (news_new _ _ _ _ rfl) (by simp [Value.oneCell']) (by omega) (by omega) (by omega) (by simp; omega) ?_; intro v1 wz hown1 hg1 hk1; obtain ⟨g1, cap1, rfl⟩ := ownsRow_succ hown1; obtain ⟨hsm, hbz, hkeep⟩ := HMq.out.pushF _ ⟨(i : Int) + 1, bx, by_, (pt : Int)⟩ (by rw [hlf]; exact hown1) hg1 hk1; have HSm := Lib.hid hsm; have z2 := hbz.cell 2; have y2 := hbz.frozen 2; have lz := hbz.lt; have z3 := hbz.cell 3; simp only [List.getElem?_toArray, List.getElem?_cons_zero, List.getElem?_cons_succ] at z2 z3; have xz := hkeep _ _ _ HXb.out HNx.out; have kz := hkeep _ _ _ HKb.out HNk.out; have HXz := Lib.hid xz; have w0' := xz.cell 0; have w1' := xz.cell 1; have w2' := xz.cell 2; have w3' := xz.cell 3; have kz10 := kz.cell 10; simp only [List.getElem?_toArray, List.getElem?_cons_zero, List.getElem?_cons_succ] at w0' w1' w2' w3' kz10; have lxz := xz.lt; have lkz := kz.lt; clear hown1 hg1 hk1 hsm hbz hkeep xz kz))
          | (at_builtin; (refine wpList_pushk ePla rfl (.tmp 129) (.tmp 131) rfl (w2.heap.size + 1) (.slice Ab nb cb) nb _ rfl ((hlb ▸ HSm.out.ob).alloc _) ⟨wz.heap.size, 0, none⟩ 1 [.int .i64 ((i : Int) + 1), .int .i64 (bx), .int .i64 (by_), .int .i64 ((pt : Int))] rfl rfl (news_new _ _ _ _ (by simp)) (by simp [Value.oneCell']) (by omega) (by omega) (by omega) (by simp; omega) ?_; intro v2 wy hown2 hg2 hk2; obtain ⟨g2, cap2, rfl⟩ := ownsRow_succ hown2; obtain ⟨hsm2, hby⟩ := HSm.out.pushB _ ⟨(i : Int) + 1, bx, by_, (pt : Int)⟩ (by rw [hlb]; exact hown2) hg2 hk2; have HSm2 := Lib.hid hsm2; have zz3 := hby.cell 3; have yy3 := hby.frozen 3; have lzy := hby.lt; simp only [List.getElem?_toArray, List.getElem?_cons_zero, List.getElem?_cons_succ] at zz3; clear hown2 hg2 hk2 hsm2 hby)))
        refine ⟨⟨i + 1, .slice (some ⟨g1, 0, none⟩) (nf + 1) cap1, .slice (some ⟨g2, 0, none⟩) (nb + 1) cap2, by omega, by go_num, ?_⟩, by simp [intOf]; omega⟩
        have hl := HLs.out.2.2 (by decide)
        have hs := HSm2.out
        have hp := HPc.out
        simp at hp
        rw [hl.1, hl.2, hp]
        exact hs
    · obtain rfl : i = k := by omega
      -- done
      have r := HX2.out.below hm.be HX2.out.lt
      have g0 := r.cell 0
      have g1 := r.cell 1
      have g2 := r.cell 2
      have g3 := r.cell 3
      have s0 := hm.bs.cell 0
      have s1 := hm.bs.cell 1
      have s2 := hm.bs.cell 2
      have s3 := hm.bs.cell 3
      simp only [List.getElem?_toArray, List.getElem?_cons_zero, List.getElem?_cons_succ] at g0 g1 g2 g3 s0 s1 s2 s3
      have f0 := r.frozen 0
      have f1 := r.frozen 1
      have f2 := r.frozen 2
      have f3 := r.frozen 3
      have lr := r.lt
      have ls := hm.bs.lt
      have lS2 : w.heap.size + 1 < w2.heap.size := HX2.out.lt
      have HM := Lib.hid hm
      obtain ⟨Af, cf, ef⟩ := own_form hm.of
      obtain ⟨Ab, cb, eb⟩ := own_form hm.ob
      subst ef
      subst eb
      generalize hlf : (F i).length = nf at *
      generalize hlb : (Bk i).length = nb at *
      have HLf := Lib.hid hlf
      have HLb := Lib.hid hlb
      have HP1 : Hid (∀ a0 a1 a2 a3 : Value, PlV ((((wr.setCell ⟨w.heap.size + 1, 0, none⟩ a0).setCell ⟨w.heap.size + 1, 1, none⟩ a1).setCell ⟨w.heap.size + 1, 2, none⟩ a2).setCell ⟨w.heap.size + 1, 3, none⟩ a3) (fun g => w.heap.size ≤ g) (.slice Af nf cf) (F i) ∧ PlV ((((wr.setCell ⟨w.heap.size + 1, 0, none⟩ a0).setCell ⟨w.heap.size + 1, 1, none⟩ a1).setCell ⟨w.heap.size + 1, 2, none⟩ a2).setCell ⟨w.heap.size + 1, 3, none⟩ a3) (fun g => w.heap.size ≤ g) (.slice Ab nb cb) (Bk i)) := fun a0 a1 a2 a3 => by
        have hn : ∀ g, w2.heap.size + 1 ≤ g → ¬ g = w.heap.size + 1 := fun g hg => by omega
        have p1 := SlM.mono (ok' := fun g => w2.heap.size + 1 ≤ g) (SlM.of_own HM.out.of) fun _ _ hb => hb.2
        have p2 := SlM.mono (ok' := fun g => w2.heap.size + 1 ≤ g) (SlM.of_own HM.out.ob) fun _ _ hb => hb.2
        have nf' : ¬ (w2.heap.size + 1 ≤ w.heap.size + 1) := by omega
        have far : ∀ {v : Value} {n : Nat} {xs : List Value}, SlM wr (fun g => w2.heap.size + 1 ≤ g) v n xs → SlM ((((wr.setCell ⟨w.heap.size + 1, 0, none⟩ a0).setCell ⟨w.heap.size + 1, 1, none⟩ a1).setCell ⟨w.heap.size + 1, 2, none⟩ a2).setCell ⟨w.heap.size + 1, 3, none⟩ a3) (fun g => w.heap.size ≤ g) v n xs := fun h =>
          SlM.mono (SlM.far (SlM.far (SlM.far (SlM.far h (p := ⟨w.heap.size + 1, 0, none⟩) nf' a0) (p := ⟨w.heap.size + 1, 1, none⟩) nf' a1) (p := ⟨w.heap.size + 1, 2, none⟩) nf' a2) (p := ⟨w.heap.size + 1, 3, none⟩) nf' a3) fun g _ (hg : w2.heap.size + 1 ≤ g) => by omega
        exact ⟨far p1, far p2⟩
      have hbe := HB2.out.trans (hm.be.mono HB2.out.size)
      have HBe := Lib.hid hbe
      clear hm r hbe hlf hlb
      go_wp2
      refine bodyPost_ret (v := .tuple #[.agg #[.int .i64 pw, .int .i64 ph, .slice Af nf cf, .slice Ab nb cb], .int .i64 0]) (by simp [results, Try.results10, go_sem, g0, g1, g2, g3, World.cell?_setCell_other, World.cell?_setCell_same]) rfl ?_
      rw [HE.out]
      exact ⟨_, _, rfl, (HP1.out _ _ _ _).1, (HP1.out _ _ _ _).2, (((HBe.out.setCell (by simp) _).setCell (by simp) _).setCell (by simp) _).setCell (by simp) _⟩
end Go.Proofs.Ytjcijogdcafloaa
