/- The walks of Size and Pile. -/
import Derived.Test.YtjcijogdcafloaaDoorAfter
import Derived.Test.YtjcijogdcafloaaDoorFolded
namespace Go.Proofs.YtjcijogdcafloaaDoor
open Go.RowKit
set_option maxRecDepth 100000 in
set_option maxHeartbeats 4000000 in
theorem after_range (C R k : Int) (v : Value) (l : List Step) (w : World) (hI : Sv w v l) (hch : chk C R l = 0) (hk : k < 0 ∨ (l.length : Int) < k) :
    Calls Tryd.prog 26 #[.agg #[.int .i64 C, .int .i64 R, v], .int .i64 k] w (AfterErr 3 w) := by
  have HI := Lib.hid hI
  obtain ⟨Av, cv, ev⟩ := SlM.form HI.out
  have hcap := (SlM.caps (ev ▸ HI.out)).2
  have hmx : l.length ≤ 9223372036854775807 := by have := hcap.1; have := hcap.2; unfold maxLen at this; omega
  have HChk : Hid (∀ w', Below w.heap.size w w' → Calls Tryd.prog 31 #[.agg #[.int .i64 C, .int .i64 R, v]] w' fun e w'' => e = .returned (.int .i64 0) ∧ Below w'.heap.size w' w'') := fun w' hb => by
    have := check_any C R v l w' (SlM.later HI.out hb)
    rw [hch] at this; exact this
  have HE : Hid (∀ e w', AfterErr 3 w e w' = (e = .returned (.tuple #[.agg #[.int .i64 0, .int .i64 0, .slice none 0 0], .int .i64 3]) ∧ Below w.heap.size w w')) := fun _ _ => rfl
  generalize AfterErr 3 w = Post at *
  generalize l.length = n at *
  subst ev
  clear hI hch hcap
  have hb0 := Lib.hid (((Below.refl w.heap.size w).alloc (Nat.le_refl _) (Obj.cells #[.int .i64 C, .int .i64 R, .slice Av n cv] 24)).alloc (by simp) (Obj.cells #[.int .i64 0, .int .i64 0, .slice none 0 0] 63))
  have hbl0 := Lib.hid ((Blk.new w 24 #[.int .i64 C, .int .i64 R, .slice Av n cv]).alloc (Obj.cells #[.int .i64 0, .int .i64 0, .slice none 0 0] 63))
  have hbl1 := Lib.hid (Blk.new (w.alloc (Obj.cells #[.int .i64 C, .int .i64 R, .slice Av n cv] 24)) 63 #[.int .i64 0, .int .i64 0, .slice none 0 0])
  have hsplit : k < 0 ∨ (0 ≤ k ∧ (n : Int) < k) := by omega
  clear hk
  rcases hsplit with h1 | ⟨h1, h2⟩
  all_goals
    go_enter Tryd.func26, Tryd.ntmps26
    go_wp2_with fail
    refine (HChk.out _ hb0.out).mono ?_; rintro e w1 ⟨rfl, hb1⟩
    have x1 := hbl1.out.below hb1 hbl1.out.lt
    simp only [World.size_alloc] at x1
    have be1 := hb0.out.trans (hb1.mono hb0.out.size)
    have c2 : w1.cell? ⟨w.heap.size, 2, none⟩ = some (.slice Av n cv) := (hbl0.out.below hb1 hbl0.out.lt).cell 2
    have y0 : w1.cell? ⟨w.heap.size + 1, 0, none⟩ = some (.int .i64 0) := x1.cell 0
    have y1 : w1.cell? ⟨w.heap.size + 1, 1, none⟩ = some (.int .i64 0) := x1.cell 1
    have y2 : w1.cell? ⟨w.heap.size + 1, 2, none⟩ = some (.slice none 0 0) := x1.cell 2
    have f0 := x1.frozen 0
    have f1 := x1.frozen 1
    have f2 := x1.frozen 2
    have hlt := x1.lt
    have HBe := Lib.hid be1
    clear x1 be1 hb1
    go_wp2
    refine bodyPost_ret (v := .tuple #[.agg #[.int .i64 0, .int .i64 0, .slice none 0 0], .int .i64 3]) (by simp [results, Tryd.results26, go_sem, y0, y1, y2]) rfl ?_
    rw [HE.out]
    exact ⟨rfl, ((HBe.out.setCell (p := ⟨w.heap.size + 1, 0, none⟩) (by simp) _).setCell (p := ⟨w.heap.size + 1, 1, none⟩) (by simp) _).setCell (p := ⟨w.heap.size + 1, 2, none⟩) (by simp) _⟩
/-- What after answers: its error. -/
def afterZ (C R : Int) (l : List Step) (k : Int) : Int := if chk C R l ≠ 0 then chk C R l else if k < 0 ∨ (l.length : Int) < k then 3 else 0
theorem after_err (C R k : Int) (v : Value) (l : List Step) (w : World) (hI : Sv w v l) (hz : afterZ C R l k ≠ 0) :
    Calls Tryd.prog 26 #[.agg #[.int .i64 C, .int .i64 R, v], .int .i64 k] w (AfterErr (afterZ C R l k) w) := by
  by_cases h1 : chk C R l = 0
  · by_cases h2 : k < 0 ∨ (l.length : Int) < k
    · have e : afterZ C R l k = 3 := by unfold afterZ; rw [if_neg (by simpa using h1), if_pos h2]
      rw [e]; exact after_range C R k v l w hI h1 h2
    · exfalso; apply hz; unfold afterZ; rw [if_neg (by simpa using h1), if_neg h2]
  · have e : afterZ C R l k = chk C R l := by unfold afterZ; rw [if_pos h1]
    rw [e]; exact after_bad C R k v l w hI h1
theorem afterZ_zero {C R k : Int} {l : List Step} (h : afterZ C R l k = 0) : ∃ c r j : Nat, C = c ∧ R = r ∧ k = j ∧ Good c r l ∧ j ≤ l.length := by
  unfold afterZ at h
  by_cases h1 : chk C R l = 0
  · rw [if_neg (by simpa using h1)] at h
    obtain ⟨c, r, rfl, rfl, hg⟩ := chk_zero h1
    by_cases h2 : k < 0 ∨ (l.length : Int) < k
    · rw [if_pos h2] at h; cases h
    · exact ⟨c, r, k.toNat, rfl, rfl, by omega, hg, by omega⟩
  · rw [if_pos h1] at h; exact absurd h h1
theorem after_good {C R : Nat} {l : List Step} (hg : Good C R l) {v : Value} {w : World} (hI : Sv w v l) {k : Nat} (hk : k ≤ l.length) :
    Calls Tryd.prog 26 #[.agg #[.int .i64 (C : Int), .int .i64 (R : Int), v], .int .i64 (k : Int)] w (AfterPost (foldAll (flatS C R) (l.take k)) w) :=
  after_ok C R v l k w hI hg.c1 hg.c8 hg.r1 hg.r8 hg.cr hg.n8 (good_chk hg) hg.ok hk
def SizePost (C R : Int) (l : List Step) (k : Int) (w : World) (e : Ending) (w' : World) : Prop :=
  (afterZ C R l k = 0 → e = .returned (.tuple #[.int .i64 ((foldAll (flatS C.toNat R.toNat) (l.take k.toNat)).cols : Int), .int .i64 ((foldAll (flatS C.toNat R.toNat) (l.take k.toNat)).rows : Int), .int .i64 0])) ∧
  (afterZ C R l k ≠ 0 → e = .returned (.tuple #[.int .i64 0, .int .i64 0, .int .i64 (afterZ C R l k)])) ∧ Below w.heap.size w w'
set_option maxHeartbeats 4000000 in
theorem size_raw (C R k : Int) (v : Value) (A : Option Addr) (m cc : Nat) (hv : v = .slice A m cc) (w : World) (xc xr z : Int) (hA : ∀ w', Below w.heap.size w w' → Calls Tryd.prog 26 #[.agg #[.int .i64 C, .int .i64 R, v], .int .i64 k] w' fun e w'' => ∃ A n c, e = .returned (.tuple #[.agg #[.int .i64 xc, .int .i64 xr, .slice A n c], .int .i64 z]) ∧ Below w'.heap.size w' w'') :
    Calls Tryd.prog 13 #[.agg #[.int .i64 C, .int .i64 R, v], .int .i64 k] w fun e w' => e = .returned (.tuple #[.int .i64 xc, .int .i64 xr, .int .i64 z]) ∧ Below w.heap.size w w' := by
  subst hv
  have HA := Lib.hid hA
  have hb0 := Lib.hid ((Below.refl w.heap.size w).alloc (Nat.le_refl _) (Obj.cells #[.int .i64 C, .int .i64 R, .slice A m cc] 24))
  clear hA
  go_enter Tryd.func13, Tryd.ntmps13
  go_wp2_with fail
  refine (HA.out _ hb0.out).mono ?_; rintro e w1 ⟨A1, n1, c1, rfl, hb1⟩
  have HBe := Lib.hid (hb0.out.trans (hb1.mono hb0.out.size))
  clear hb1
  go_wp2
  go_quiet (fail)
  go_wp2
  go_ret3
  exact ⟨rfl, below_drewN (HBe.out.alloc HBe.out.size _) _⟩
theorem size_any (C R k : Int) (v : Value) (l : List Step) (w : World) (hI : Sv w v l) :
    Calls Tryd.prog 13 #[.agg #[.int .i64 C, .int .i64 R, v], .int .i64 k] w (SizePost C R l k w) := by
  obtain ⟨Av, cv, ev⟩ := SlM.form hI
  by_cases hz : afterZ C R l k = 0
  · obtain ⟨c, r, j, rfl, rfl, rfl, hg, hj⟩ := afterZ_zero hz
    refine (size_raw c r j v Av l.length cv ev w (foldAll (flatS c r) (l.take j)).cols (foldAll (flatS c r) (l.take j)).rows 0 fun w' hb => (after_good hg (SlM.later hI hb) hj).mono ?_).mono ?_
    · rintro e w'' ⟨vx, vals, rfl, hpl, hb⟩
      obtain ⟨A, c, e⟩ := hpl.out.form
      exact ⟨A, _, c, by rw [e], hb⟩
    · rintro e w' ⟨rfl, hb⟩
      exact ⟨fun _ => rfl, fun h => absurd hz h, hb⟩
  · refine (size_raw C R k v Av l.length cv ev w 0 0 (afterZ C R l k) fun w' hb => (after_err C R k v l w' (SlM.later hI hb) hz).mono ?_).mono ?_
    · rintro e w'' ⟨rfl, hb⟩
      exact ⟨none, 0, 0, rfl, hb⟩
    · rintro e w' ⟨rfl, hb⟩
      exact ⟨fun h => absurd h hz, fun _ => rfl, hb⟩
/-! Clone and Pile. -/
set_option maxRecDepth 100000 in
set_option maxHeartbeats 4000000 in
theorem clone_leaf (v : Value) (l : List Leaf) (ok : Nat → Prop) (w : World) (h : Lv w ok v l) (hn : l.length ≤ 100000) :
    Calls Tryd.prog 27 #[v] w fun e w' => ∃ v', e = .returned v' ∧ w'.ownsRow w.heap.size 42 4 v' l.length (lcells l) ∧ Below w.heap.size w w' := by
  have HL := Lib.hid h
  have q38 : ∀ (w : World) (a : Option Addr) (n c n' c' : Nat), (binOp .eql 38 (.slice a n c) (.slice none n' c')).run Tryd.prog w = .ok (.bool a.isNone) w := fun w a n c n' c' => Lib.run_eql_slice_nil w _ _ a n c n' c' Tryd.underlying38
  obtain ⟨A, c, ev⟩ := SlM.form h
  subst ev
  clear h
  generalize hlen : l.length = n at *
  have HN := Lib.hid hlen
  clear hlen
  cases A with
  | none =>
    have hn0 : n = 0 := by
      rcases Nat.eq_zero_or_pos n with h | h
      · exact h
      · obtain ⟨b, off, e, _⟩ := SlM.addr HL.out (by rw [HN.out]; exact h); cases e
    subst hn0
    have hl : l = [] := List.eq_nil_of_length_eq_zero HN.out
    subst hl
    go_enter Tryd.func27, Tryd.ntmps27
    go_wp2
    go_ret
    exact ⟨_, rfl, World.ownsRow_nil w _ _ _, Below.refl _ w⟩
  | some ad =>
    have hown0 : Hid ((w.alloc (.cells #[] 42)).ownsRow w.heap.size 42 4 (.slice (some ⟨w.heap.size, 0, none⟩) 0 0) 0 []) :=
      ⟨rfl, .inr ⟨w.heap.size, 0, #[], rfl, Nat.le_refl _, heap_alloc_new w _, Nat.le_refl _, by simp, by simp, by simp⟩⟩
    go_enter Tryd.func27, Tryd.ntmps27
    go_wp2_with (at_builtin; go_must (refine wpList_append_slk eLeaf rfl (.tmp 5) (.tmp 6) rfl w.heap.size _ 0 [] rfl hown0.out (some ad) n c (lcells l) ok rfl (by have := SlM.alloc HL.out (.cells #[] 42); rw [HN.out] at this; exact this) (by rw [lcells_length, HN.out]) (lcells_ones l) (by omega) (by omega) (by omega) (by simp) ?_; intro v' w2 hown2 hg2 _))
    go_wp2
    go_ret
    refine ⟨_, rfl, by simpa [List.nil_append] using hown2, ?_⟩
    exact ((Below.refl _ w).alloc (Nat.le_refl _) _).grown hg2 (by simp) (by intro k hk; exact Nat.le_of_eq (Option.some.inj hk))
def PilePost (q : List Leaf) (w : World) (e : Ending) (w' : World) : Prop :=
  ∃ v, e = .returned (.tuple #[v, .int .i64 0]) ∧ Lv w' (fun b => w.heap.size ≤ b) v q ∧ Below w.heap.size w w'
/-- The same, with the row for the caller's own. -/
def PileOwn (q : List Leaf) (w : World) (e : Ending) (w' : World) : Prop :=
  ∃ v, e = .returned (.tuple #[v, .int .i64 0]) ∧ w'.ownsRow w.heap.size 42 4 v q.length (lcells q) ∧ Below w.heap.size w w'
theorem PileOwn.post {q : List Leaf} {w w' : World} {e : Ending} (h : PileOwn q w e w') : PilePost q w e w' := by
  obtain ⟨v, he, ho, hb⟩ := h
  exact ⟨v, he, SlM.mono (SlM.of_own ho) fun b _ (h : _ ∧ _) => h.2, hb⟩
def PileErr (z : Int) (w : World) (e : Ending) (w' : World) : Prop := e = .returned (.tuple #[.slice none 0 0, .int .i64 z]) ∧ Below w.heap.size w w'
set_option maxRecDepth 100000 in
set_option maxHeartbeats 4000000 in
theorem place_own (C R k : Int) (v : Value) (l : List Step) (c r : Nat) (w : World) (hI : Sv w v l) (S : Sheet) (hc8 : S.cols ≤ 8) (hr8 : S.rows ≤ 8) (hc : c < S.cols) (hr : r < S.rows) (hlen : (S.P c r).length ≤ 100000)
    (hA : ∀ w', Below w.heap.size w w' → Calls Tryd.prog 26 #[.agg #[.int .i64 C, .int .i64 R, v], .int .i64 k] w' (AfterPost S w')) :
    Calls Tryd.prog 14 #[.agg #[.int .i64 C, .int .i64 R, v], .int .i64 k, .int .i64 (c : Int), .int .i64 (r : Int)] w (PileOwn (S.P c r) w) := by
  obtain ⟨Av, cv, ev⟩ := SlM.form hI
  have HA := Lib.hid hA
  have HP : Hid (∀ e w', PileOwn (S.P c r) w e w' = ∃ v, e = .returned (.tuple #[v, .int .i64 0]) ∧ w'.ownsRow w.heap.size 42 4 v (S.P c r).length (lcells (S.P c r)) ∧ Below w.heap.size w w') := fun _ _ => rfl
  generalize PileOwn (S.P c r) w = Post at *
  have hat : pileAt S (c : Int) (r : Int) = S.P c r := by unfold pileAt; rw [if_pos (by omega)]; simp
  have HAt := Lib.hid hat
  subst ev
  have hb0 := Lib.hid ((Below.refl w.heap.size w).alloc (Nat.le_refl _) (Obj.cells #[.int .i64 C, .int .i64 R, .slice Av l.length cv] 24))
  generalize l.length = n at *
  clear hA hat hI
  go_enter Tryd.func14, Tryd.ntmps14
  go_wp2_with fail
  refine (HA.out _ hb0.out).mono ?_; rintro e w1 ⟨vx, vals, rfl, hpl, hb1⟩
  have HBe := Lib.hid (hb0.out.trans (hb1.mono hb0.out.size))
  have HPl := Lib.hid hpl
  obtain ⟨Ax, cx, hx⟩ := hpl.out.form
  clear hb1
  generalize hvl : vals.length = nv at *
  subst hx
  clear hpl hvl
  go_wp2_with fail
  have hb2 := HBe.out.alloc HBe.out.size (Obj.cells #[.int .i64 (S.cols : Int), .int .i64 (S.rows : Int), .slice Ax nv cx] 63)
  have hpl2 := HPl.out.later ((Below.refl w1.heap.size w1).alloc (Nat.le_refl _) (Obj.cells #[.int .i64 (S.cols : Int), .int .i64 (S.rows : Int), .slice Ax nv cx] 63))
  have hb3 := hb2.alloc hb2.size (Obj.cells #[.int .i64 (S.cols : Int), .int .i64 (S.rows : Int), .slice Ax nv cx] 63)
  have hpl3 := hpl2.later ((Below.refl _ (w1.alloc (Obj.cells #[.int .i64 (S.cols : Int), .int .i64 (S.rows : Int), .slice Ax nv cx] 63))).alloc (Nat.le_refl _) (Obj.cells #[.int .i64 (S.cols : Int), .int .i64 (S.rows : Int), .slice Ax nv cx] 63))
  have hlv := pv_reads hpl3 c r
  rw [HAt.out] at hlv
  have HB3 := Lib.hid hb3
  have HLv := Lib.hid hlv
  have hp := Lib.hid (pile_any S _ vals c r _ hpl2 hc8 hr8 ⟨by omega, by omega⟩ ⟨by omega, by omega⟩)
  clear hb2 hpl2 hb3 hpl3 hlv
  obtain ⟨Ap, cp, hpv⟩ := SlM.form HLv.out
  have hcl := Lib.hid (fun w (h : Lv w (fun _ => True) (pv vals S c r) (S.P c r)) => clone_leaf _ _ _ w h hlen)
  generalize pv vals S c r = vp at *
  subst hpv
  clear hlen
  generalize S.P c r = q at *
  refine hp.out.mono ?_; rintro e w2 ⟨rfl, rfl⟩
  generalize hqn : q.length = nq at *
  go_wp2_with fail
  refine (hcl.out _ HLv.out).mono ?_; rintro e w3 ⟨v', rfl, hown, hbc⟩
  have HOwn := Lib.hid hown
  have HBc := Lib.hid hbc
  clear hown hbc
  go_wp2
  rw [HP.out]
  refine ⟨v', rfl, ?_, HB3.out.trans (HBc.out.mono HB3.out.size)⟩
  have hsz := HB3.out.size
  rcases HOwn.out with ⟨h1, h2 | ⟨g, cap, cur, e1, e2, e3, e4, e5, e6, e7⟩⟩
  · exact ⟨h1, .inl h2⟩
  · exact ⟨h1, .inr ⟨g, cap, cur, e1, Nat.le_trans hsz e2, e3, e4, e5, e6, e7⟩⟩
theorem place_pile (C R k : Int) (v : Value) (l : List Step) (c r : Nat) (w : World) (hI : Sv w v l) (S : Sheet) (hc8 : S.cols ≤ 8) (hr8 : S.rows ≤ 8) (hc : c < S.cols) (hr : r < S.rows) (hlen : (S.P c r).length ≤ 100000)
    (hA : ∀ w', Below w.heap.size w w' → Calls Tryd.prog 26 #[.agg #[.int .i64 C, .int .i64 R, v], .int .i64 k] w' (AfterPost S w')) :
    Calls Tryd.prog 14 #[.agg #[.int .i64 C, .int .i64 R, v], .int .i64 k, .int .i64 (c : Int), .int .i64 (r : Int)] w (PilePost (S.P c r) w) :=
  (place_own C R k v l c r w hI S hc8 hr8 hc hr hlen hA).mono fun _ _ h => PileOwn.post h
set_option maxRecDepth 100000 in
set_option maxHeartbeats 4000000 in
theorem out_pile (C R k c r z : Int) (v : Value) (l : List Step) (w : World) (hI : Sv w v l) (xc xr : Int) (ho : z ≠ 0 ∨ z = 0 ∧ (c < 0 ∨ r < 0 ∨ xc ≤ c ∨ xr ≤ r))
    (hA : ∀ w', Below w.heap.size w w' → Calls Tryd.prog 26 #[.agg #[.int .i64 C, .int .i64 R, v], .int .i64 k] w' fun e w'' => ∃ A n c, e = .returned (.tuple #[.agg #[.int .i64 xc, .int .i64 xr, .slice A n c], .int .i64 z]) ∧ Below w'.heap.size w' w'') :
    Calls Tryd.prog 14 #[.agg #[.int .i64 C, .int .i64 R, v], .int .i64 k, .int .i64 c, .int .i64 r] w (PileErr (if z = 0 then 3 else z) w) := by
  obtain ⟨Av, cv, ev⟩ := SlM.form hI
  have HA := Lib.hid hA
  have HP : Hid (∀ e w', PileErr (if z = 0 then 3 else z) w e w' = (e = .returned (.tuple #[.slice none 0 0, .int .i64 (if z = 0 then 3 else z)]) ∧ Below w.heap.size w w')) := fun _ _ => rfl
  generalize PileErr (if z = 0 then 3 else z) w = Post at *
  subst ev
  have hb0 := Lib.hid ((Below.refl w.heap.size w).alloc (Nat.le_refl _) (Obj.cells #[.int .i64 C, .int .i64 R, .slice Av l.length cv] 24))
  generalize l.length = n at *
  clear hA hI
  rcases ho with hz | ⟨rfl, ho⟩
  · rw [if_neg hz] at HP
    go_enter Tryd.func14, Tryd.ntmps14
    go_wp2_with fail
    refine (HA.out _ hb0.out).mono ?_; rintro e w1 ⟨A1, n1, c1, rfl, hb1⟩
    have HBe := Lib.hid (hb0.out.trans (hb1.mono hb0.out.size))
    clear hb1
    go_wp2
    rw [HP.out]
    exact ⟨rfl, HBe.out.alloc HBe.out.size _⟩
  · rw [if_pos rfl] at HP
    go_enter Tryd.func14, Tryd.ntmps14
    go_wp2_with fail
    refine (HA.out _ hb0.out).mono ?_; rintro e w1 ⟨A1, n1, c1, rfl, hb1⟩
    have HBe := Lib.hid (hb0.out.trans (hb1.mono hb0.out.size))
    clear hb1
    have hcond : (decide (c < 0) || decide (r < 0) || decide (c ≥ xc) || decide (r ≥ xr)) = true := by
      rcases ho with h | h | h | h <;> simp [h]
    go_wp2
    all_goals rw [HP.out]
    all_goals exact ⟨rfl, HBe.out.alloc HBe.out.size _⟩
/-- What Pile answers: its error. -/
def pileZ (C R : Int) (l : List Step) (k c r : Int) : Int :=
  if afterZ C R l k ≠ 0 then afterZ C R l k else if 0 ≤ c ∧ 0 ≤ r ∧ c < (foldAll (flatS C.toNat R.toNat) (l.take k.toNat)).cols ∧ r < (foldAll (flatS C.toNat R.toNat) (l.take k.toNat)).rows then 0 else 3
def FPost (C R : Int) (l : List Step) (k c r : Int) (w : World) (e : Ending) (w' : World) : Prop :=
  (pileZ C R l k c r = 0 → PilePost ((foldAll (flatS C.toNat R.toNat) (l.take k.toNat)).P c.toNat r.toNat) w e w') ∧ (pileZ C R l k c r ≠ 0 → PileErr (pileZ C R l k c r) w e w')
theorem pile_max {C R : Nat} {l : List Step} (hg : Good C R l) (k : Nat) {c r : Nat} (hc : c < (foldAll (flatS C R) (l.take k)).cols) (hr : r < (foldAll (flatS C R) (l.take k)).rows) :
    ((foldAll (flatS C R) (l.take k)).P c r).length ≤ 100000 ∧ (foldAll (flatS C R) (l.take k)).cols ≤ 8 ∧ (foldAll (flatS C R) (l.take k)).rows ≤ 8 := by
  have h1 := pile_length (okSteps_take hg.ok k) hc hr
  have h2 : R * C ≤ 8 * 8 := Nat.mul_le_mul hg.r8 hg.c8
  have h3 := small_all (C := C) (R := R) (okSteps_take hg.ok k) ⟨hg.c1, Nat.le_refl _, hg.r1, Nat.le_refl _⟩
  have h4 := hg.c8
  have h5 := hg.r8
  obtain ⟨_, q1, _, q2⟩ := h3
  exact ⟨by omega, by omega, by omega⟩
theorem fpile_any (C R k c r : Int) (v : Value) (l : List Step) (w : World) (hI : Sv w v l) :
    Calls Tryd.prog 14 #[.agg #[.int .i64 C, .int .i64 R, v], .int .i64 k, .int .i64 c, .int .i64 r] w (FPost C R l k c r w) := by
  by_cases hz : afterZ C R l k = 0
  · obtain ⟨c', r', j, rfl, rfl, rfl, hg, hj⟩ := afterZ_zero hz
    by_cases hin : 0 ≤ c ∧ 0 ≤ r ∧ c < (foldAll (flatS c' r') (l.take j)).cols ∧ r < (foldAll (flatS c' r') (l.take j)).rows
    · have hz0 : pileZ (c' : Int) (r' : Int) l (j : Int) c r = 0 := by
        unfold pileZ; rw [if_neg (by simpa using hz)]; simp only [Int.toNat_natCast]; rw [if_pos hin]
      obtain ⟨k0, k1, k2, k3⟩ := hin
      obtain ⟨c, rfl⟩ := Int.eq_ofNat_of_zero_le k0
      obtain ⟨r, rfl⟩ := Int.eq_ofNat_of_zero_le k1
      obtain ⟨m1, m2, m3⟩ := pile_max hg j (c := c) (r := r) (by omega) (by omega)
      refine (place_pile c' r' j v l c r w hI (foldAll (flatS c' r') (l.take j)) m2 m3 (by omega) (by omega) m1 fun w' hb => after_good hg (SlM.later hI hb) hj).mono ?_
      intro e w' hp
      exact ⟨fun _ => by simpa only [Int.toNat_natCast] using hp, fun h => absurd hz0 h⟩
    · have hz3 : pileZ (c' : Int) (r' : Int) l (j : Int) c r = 3 := by
        unfold pileZ; rw [if_neg (by simpa using hz)]; simp only [Int.toNat_natCast]; rw [if_neg hin]
      refine (out_pile c' r' j c r 0 v l w hI (foldAll (flatS c' r') (l.take j)).cols (foldAll (flatS c' r') (l.take j)).rows (.inr ⟨rfl, by omega⟩) fun w' hb => (after_good hg (SlM.later hI hb) hj).mono ?_).mono ?_
      · rintro e w'' ⟨vx, vals, rfl, hpl, hb⟩
        obtain ⟨A, c, e⟩ := hpl.out.form
        exact ⟨A, _, c, by rw [e], hb⟩
      · intro e w' hp
        exact ⟨fun h => absurd (hz3.symm.trans h) (by decide), fun _ => by rw [hz3]; exact hp⟩
  · have hzz : pileZ C R l k c r = afterZ C R l k := by unfold pileZ; rw [if_pos hz]
    refine (out_pile C R k c r (afterZ C R l k) v l w hI 0 0 (.inl hz) fun w' hb => (after_err C R k v l w' (SlM.later hI hb) hz).mono ?_).mono ?_
    · rintro e w'' ⟨rfl, hb⟩
      exact ⟨none, 0, 0, rfl, hb⟩
    · intro e w' hp
      rw [if_neg hz] at hp
      exact ⟨fun h => absurd (hzz ▸ h) hz, fun _ => by rw [hzz]; exact hp⟩
end Go.Proofs.YtjcijogdcafloaaDoor
