/- The walk of add: one more fact, laid into its place. -/
import Derived.Test.YtonmpealebggoaaGreatDoorPrpNev
import Derived.Test.YtonmpealebggoaaGreatDoorPrpJdg
import Derived.Test.YtonmpealebggoaaGreatDoorLaidE
import Derived.Laws.EntriesVeiled
namespace Go.Proofs.YtonmpealebggoaaGreatDoor
open Go.RowKit Pr Go.Shelf Go.Lib Go.Sort
theorem eFf : ElemK Tryz.prog 28 30 (.agg #[.string ⟨#[]⟩, .int .i64 0]) 2 24 := ElemK.mk_ Tryz.underlying28 (by kernel_rfl) rfl
set_option maxRecDepth 100000 in
set_option maxHeartbeats 8000000 in
theorem clonef_any (l : List Ft) (v : Value) (P : Nat → Prop) (w : World) (h : FtsM P w v l) (hl : l.length * 24 + 24 ≤ 140737488355328) :
    Calls Tryz.prog 17 #[v] w fun e w' => ∃ v', e = .returned v' ∧ w'.ownsRow w.heap.size 30 2 v' l.length (fcells l) ∧ Below w.heap.size w w' := by
  have hq : ∀ (w : World) (a : Option Addr) (n c n' c' : Nat), (binOp .eql 28 (.slice a n c) (.slice none n' c')).run Tryz.prog w = .ok (.bool a.isNone) w := fun w a n c n' c' => Lib.run_eql_slice_nil w _ _ a n c n' c' Tryz.underlying28
  obtain ⟨A, cap, rfl⟩ := h.1.form
  have hcp := h.1.caps
  cases A with
  | none =>
    have h0 : l.length = 0 := by
      rcases Nat.eq_zero_or_pos l.length with h0 | h0
      · exact h0
      · obtain ⟨b, off, e, _⟩ := h.1.addr h0; cases e
    have hl0 : l = [] := List.eq_nil_of_length_eq_zero h0
    subst hl0
    clear h
    go_enter Tryz.func17, Tryz.ntmps17
    go_wp2_with fail
    go_ret
    exact ⟨_, rfl, ⟨rfl, .inl ⟨rfl, rfl⟩⟩, Below.refl _ _⟩
  | some ad =>
    have HM := Lib.hid h
    have hlen := fcells_len l
    have HL := Lib.hid hlen
    have HO := Lib.hid (fcells_one l)
    have hown : (w.alloc (.cells #[] 30)).ownsRow w.heap.size 30 2 (.slice (some ⟨w.heap.size, 0, none⟩) 0 0) 0 [] := ⟨rfl, .inr ⟨w.heap.size, 0, #[], rfl, Nat.le_refl _, heap_alloc_new w _, Nat.le_refl _, by simp [maxLen], rfl, rfl⟩⟩
    have HOw := Lib.hid hown
    have HCell : Hid (∀ j u, (fcells l)[j]? = some u → (w.alloc (.cells #[] 30)).cell? (ad.add j) = some u) := by
      intro j u hu
      have hn : 0 < l.length := by
        have := (List.getElem?_eq_some_iff.1 hu).1
        omega
      obtain ⟨b, off, e, -, hb, hc⟩ := h.1.addr hn
      injection e with e
      subst e
      rw [add_plain, World.cell?_of_block (w := w) (Below.heap_alloc w _ b hb)]
      exact hc j u hu
    clear h hlen hown
    generalize hn : l.length = n at *
    generalize fcells l = xs at *
    clear HM
    go_enter Tryz.func17, Tryz.ntmps17
    obtain ⟨i, h2, h3, h4, h5⟩ := eFf.hi
    go_wp2_with (at_builtin; go_must (refine wpList_append_own_at _ rfl (.tmp 5) (.tmp 6) 28 rfl w.heap.size 30 i (.agg #[.string ⟨#[]⟩, .int .i64 0]) 2 24 eFf.ht h2 h3 h4 h5 eFf.hz (by omega) (.slice (some ⟨w.heap.size, 0, none⟩) 0 0) 0 [] rfl HOw.out ad n cap xs rfl (by rw [HL.out]) HCell.out HO.out (by unfold maxLen; omega) (by omega) (by simp) ?_); go_must (intro v' w11 a1 a2 _ a4; have HO11 := Lib.hid a1; have HG11 := Lib.hid a2; obtain ⟨A', c', rfl⟩ := own_form a1; clear a1 a2 a4))
    go_ret
    refine ⟨_, rfl, ?_, ?_⟩
    · have := HO11.out
      simpa using this
    · exact ⟨HG11.out.os, HG11.out.tape, HG11.out.output, by have := HG11.out.size; simp at this; omega, fun k hk => (HG11.out.block k (by simp; omega) (by simp [Value.ownBlock]; omega)).trans (Below.heap_alloc w _ k hk)⟩
theorem flat_get (zs : List Ft) (k : Nat) (h : k < zs.length * 2) : (fcells zs)[k]? = some ((flatK fcell 2 zs.toArray)[k]!) := by
  rw [get_flatK _ _ _ _ (by simpa using h)]
  have h1 : k / 2 < zs.length := by omega
  have e : k = k / 2 * 2 + k % 2 := by omega
  have h2 := flat_at flen default zs (k / 2) (k % 2) h1 (Nat.mod_lt _ (by omega))
  rw [← e] at h2
  show (zs.flatMap fcell)[k]? = _
  rw [h2]
  have h3 : zs.toArray[k / 2]! = zs.getD (k / 2) default := by
    rw [List.getElem!_toArray, List.getElem!_eq_getElem?_getD, List.getD_eq_getElem?_getD]
  rw [h3]
  have h4 : k % 2 < (fcell (zs.getD (k / 2) default)).length := Nat.mod_lt _ (by omega)
  rw [List.getElem?_eq_getElem h4, getElem!_pos (fcell (zs.getD (k / 2) default)) _ h4]
theorem holdsk_own {w : World} {base : Nat} {v : Value} {l : List Ft} (h : w.ownsRow base 30 2 v l.length (fcells l)) (hn : 0 < l.length) :
    ∃ g cap, v = .slice (some ⟨g, 0, none⟩) l.length cap ∧ base ≤ g ∧ g < w.heap.size ∧ HoldsK fcell 2 w g 0 l.toArray ∧ l.length ≤ cap ∧ cap ≤ maxLen := by
  obtain ⟨g, cap, rfl, hb, hgl, hcell, hfz⟩ := own_cells h hn
  obtain ⟨-, h1, h2⟩ := (SlM.of_own h).caps
  refine ⟨g, cap, rfl, hb, hgl, fun t ht => ⟨?_, hfz _⟩, h1, h2⟩
  rw [size_flatK] at ht
  rw [Nat.zero_add]
  exact hcell t _ (flat_get l t (by simpa using ht))
theorem slm_holds {w : World} {g c : Nat} {zs : List Ft} (h : HoldsK fcell 2 w g 0 zs.toArray) (hg : g < w.heap.size) (h1 : zs.length ≤ c) (h2 : c ≤ maxLen) : SlM w (fun _ => True) (.slice (some ⟨g, 0, none⟩) zs.length c) zs.length (fcells zs) :=
  ⟨_, c, rfl, h1, h2, fun _ => ⟨g, 0, rfl, trivial, hg, fun k u hu => by
    have hk : k < zs.length * 2 := by have := (List.getElem?_eq_some_iff.1 hu).1; rwa [fcells_len] at this
    have h3 := (h k (by rw [size_flatK]; simpa using hk)).1
    rw [flat_get zs k hk] at hu
    injection hu with hu
    rw [← hu]
    exact h3⟩⟩
/-- The closure by which add sorts. -/
theorem less_any (x y : Ft) (W : World) : Calls Tryz.prog 19 #[.agg #[.string (Bs x.1), .int .i64 x.2], .agg #[.string (Bs y.1), .int .i64 y.2]] W fun e w' => e = .returned (.int .i64 (Lib.compareBytes x.1 y.1)) ∧ ∃ q os', w' = grow (W.drewN q) os' := by
  have hcon := fun W' => strings_Compare (Bs x.1) (Bs y.1) W'
  have e1 : (Bs x.1).data.toList = x.1 := by simp
  have e2 : (Bs y.1).data.toList = y.1 := by simp
  rw [e1, e2] at hcon
  clear e1 e2
  generalize Lib.compareBytes x.1 y.1 = r at *
  generalize Bs x.1 = X at *
  generalize Bs y.1 = Y at *
  go_enter Tryz.func19, Tryz.ntmps19
  go_wp2_with (go_at_call 20; refine (hcon _).mono ?_; rintro e w' ⟨rfl, rfl⟩)
  go_ret
  exact ⟨rfl, 0, _, by rw [alloc_eq_grow, alloc_eq_grow, grow_grow]; rfl⟩
theorem cmp_lays (g off n : Nat) (w : World) : CmpLays Tryz.prog 19 #[] fcell 2 (fun x y : Ft => Lib.compareBytes x.1 y.1) g off n w := fun _ _ _ _ x y => less_any x y _
/-- slices.SortFunc as add calls it: the same facts, in an order of its own. -/
theorem sortft_any (l : List Ft) (g c : Nat) (w : World) (hH : HoldsK fcell 2 w g 0 l.toArray) (hg : g < w.heap.size) (hs : l.length < 4611686018427387904) :
    Calls Tryz.prog 18 #[.slice (some ⟨g, 0, none⟩) l.length c, .func (.func 19) #[] #[]] w fun e w' => e = .returned (.tuple #[]) ∧ FrS w.heap.size (fun k => k = g) w w' ∧ ∃ zs : List Ft, zs.Perm l ∧ HoldsK fcell 2 w' g 0 zs.toArray ∧ g < w'.heap.size := by
  have eg : ∀ args w, (callFunc 19 args).run Tryz.prog w = .ok (.enter 19 args) w := enters_of Tryz.func19 (by kernel_rfl) rfl
  have hcon := AnyQ.slices_SortFunc sortFt 2 Tryz.isAgg30 Tryz.sizeOf30 fcell (fun _ => rfl) (fun x v hv => by simp [fcell] at hv; rcases hv with rfl | rfl <;> rfl) (fun x y : Ft => Lib.compareBytes x.1 y.1) swoN 19 #[] g 0 c l.toArray w eg (cmp_lays g 0 _ w) hH hg (by simpa using hs)
  change Calls Tryz.prog 18 _ _ _ at hcon
  have e : l.toArray.size = l.length := by simp
  rw [e] at hcon
  refine hcon.mono ?_
  rintro e' w' ⟨rfl, d', n, os, hp, -, rfl⟩
  obtain ⟨p1, -, p3⟩ := hp
  have hf := putRow_frs id w n g 0 (flatK fcell 2 d')
  have hb := grow_below (Go.Sort.putRow id (Go.Sort.ahead w n) g 0 (flatK fcell 2 d')) os
  have hz : d'.size = l.length := by rw [p1]; simp
  have hfr := hf.trans (FrS.of_below hb hf.size)
  refine ⟨rfl, hfr, d'.toList, ?_, ?_, Nat.lt_of_lt_of_le hg hfr.size⟩
  · have e1 : d'.extract 0 l.length = d' := by rw [← hz]; simp
    have e2 : l.toArray.extract 0 l.length = l.toArray := by rw [← e]; simp
    rw [e1, e2] at p3
    simpa using p3
  · have := holdsK_sortWorldK_c fcell 2 w g 0 l.toArray d' n os hH hg (by rw [hz]; simp)
    simpa using this
/-- The closure by which add looks for a name. -/
theorem same_pred (S : ByteArray) (B : Nat) (w : World) (hB : B < w.heap.size) (hc : w.cell? ⟨B, 0, none⟩ = some (.string S)) :
    PredBelow Tryz.prog 16 #[.pointer (some ⟨B, 0, none⟩)] (fun x : Ft => .agg (fcell x).toArray) (fun x => (Bs x.1).toList == S.toList) w := fun W x hb => by
  have hc' := (hb.cell (p := ⟨B, 0, none⟩) hB).trans hc
  have hBW := Nat.lt_of_lt_of_le hB hb.size
  have hne : B ≠ W.heap.size := by omega
  show Calls Tryz.prog 16 #[.agg #[.string (Bs x.1), .int .i64 x.2], .pointer (some ⟨B, 0, none⟩)] W fun e w' => e = .returned (.bool ((Bs x.1).toList == S.toList)) ∧ Below w.heap.size w w'
  generalize Bs x.1 = X at *
  go_enter Tryz.func16, Tryz.ntmps16
  go_wp2_with fail
  go_ret
  exact ⟨rfl, hb.alloc hb.size _⟩
theorem index_any (l : List Ft) (v : Value) (P : Nat → Prop) (S : ByteArray) (B : Nat) (w : World) (h : FtsM P w v l) (hB : B < w.heap.size) (hc : w.cell? ⟨B, 0, none⟩ = some (.string S)) :
    Calls Tryz.prog 36 #[v, .func (.func 16) #[] #[.pointer (some ⟨B, 0, none⟩)]] w fun e w' => ∃ i : Int, e = .returned (.int .i64 i) ∧ Below w.heap.size w w' := by
  obtain ⟨A, c, rfl⟩ := h.1.form
  rcases Nat.eq_zero_or_pos l.length with h0 | h0
  · rw [h0]
    clear h
    go_enter Tryz.func36, Tryz.ntmps36
    go_wp2_with fail
    go_loopw [5, 8] (fun _ v8 wr => True ∧ v8 = .int .i64 0 ∧ wr = w) (fun _ _ _ => 0)
    case atStart => exact ⟨trivial, rfl, rfl⟩
    case round =>
      obtain ⟨-, rfl, rfl⟩ := hrel
      go_wp2_with fail
      go_ret
      exact ⟨_, rfl, Below.refl _ _⟩
  · obtain ⟨b, off, rfl, -, hbl, hcell⟩ := SlM.addr h.1 h0
    have eg : ∀ args w, (callFunc 16 args).run Tryz.prog w = .ok (.enter 16 args) w := enters_of Tryz.func16 (by kernel_rfl) rfl
    have hcon := AnyQ.slices_IndexFunc indexFt 2 Tryz.isAgg30 Tryz.sizeOf30 fcell (fun _ => rfl) (fun x : Ft => (Bs x.1).toList == S.toList) 16 #[.pointer (some ⟨B, 0, none⟩)] eg b off l.length c l w (same_pred S B w hB hc) (Nat.le_refl _) (by have := h.1.caps; unfold maxLen at this; omega) hbl (fun j hj i v hi => by
      have hi2 : i < 2 := (List.getElem?_eq_some_iff.1 hi).1
      have h2 := flat_at flen default l j i hj hi2
      have e : l[j]! = l.getD j default := by rw [List.getElem!_eq_getElem?_getD, List.getD_eq_getElem?_getD]
      rw [e, ← h2] at hi
      have := hcell _ _ hi
      rwa [← Nat.add_assoc] at this)
    change Calls Tryz.prog 36 _ _ _ at hcon
    exact hcon.mono fun e w' ⟨h1, h2⟩ => ⟨_, h1, h2⟩
theorem contains_any (l : List Ft) (v : Value) (P : Nat → Prop) (S : ByteArray) (B : Nat) (w : World) (h : FtsM P w v l) (hB : B < w.heap.size) (hc : w.cell? ⟨B, 0, none⟩ = some (.string S)) :
    Calls Tryz.prog 15 #[v, .func (.func 16) #[] #[.pointer (some ⟨B, 0, none⟩)]] w fun e w' => ∃ b : Bool, e = .returned (.bool b) ∧ Below w.heap.size w w' := by
  have HI := Lib.hid (index_any l v P S B w h hB hc)
  clear h hB hc
  go_enter Tryz.func15, Tryz.ntmps15
  go_wp2_with fail
  refine HI.out.mono ?_
  rintro e w2 ⟨i, rfl, hb⟩
  have HB := Lib.hid hb
  clear hb
  go_wp2_with fail
  go_ret
  exact ⟨_, rfl, HB.out⟩
theorem step_pushk {P : Program} {w : World} {ops : Array Oper} {o : Oper} {a : Act} {K : Act → World → Prop} {Q : Exit → Act → World → Prop} {E : Prop} {t e : TypeId} {z : Value} {size bytes : Nat} (T : ElemK P t e z size bytes) (hgd : o.guard = none) (s x : Operand)
    (ho : o.op = .call { callee := .builtin .append, args := #[s, x], argTypes := #[t, t] })
    (base : Nat) (v : Value) (n : Nat) (xs : List Value) (hs : a.eval s = v) (hown : w.ownsRow base e size v n xs)
    (ad : Addr) (c : Nat) (news : List Value) (hx : a.eval x = .slice (some ad) 1 c) (hl : news.length = 1 * size) (hu : ∀ j u, news[j]? = some u → w.cell? (ad.add j) = some u) (h1 : ∀ u ∈ news, u.oneCell' = true) (hbytes : (n + 1) * bytes ≤ 140737488355328) (hpos : 0 < bytes) (hsz : 0 < size) (hbase : base ≤ w.heap.size)
    (h : ∀ g cap w', w'.ownsRow base e size (.slice (some ⟨g, 0, none⟩) (n + 1) cap) (n + 1) (xs ++ news) → w.grownBy w' v.ownBlock → (some g = v.ownBlock ∨ some g = some w.heap.size) → K (a.put o.dst (.slice (some ⟨g, 0, none⟩) (n + 1) cap)) w') :
    if Region.wanted o (yielded ops a.tmps) = true then Oper.wp P o a w K Q else E := by
  have hw : Region.wanted o (yielded ops a.tmps) = true := by simp [Region.wanted, hgd]
  rw [if_pos hw]
  obtain ⟨i, h2, h3, h4, h5⟩ := T.hi
  have hlen : n + 1 ≤ maxLen := by
    have := Nat.le_mul_of_pos_right (n + 1) hpos
    unfold maxLen; omega
  obtain ⟨v', w', hrun, a1, a2, _, a4⟩ := run_append_own_at (P := P) w base t o.type e i z size bytes T.ht h2 h3 h4 h5 T.hz hsz v n xs hown ad 1 c news hl hu h1 hlen hbytes hbase
  unfold Oper.wp execOp
  simp only [ho, resolve, invoke, builtin, Sem.run_bind, Sem.run_pure, Result.andThen_ok, List.map_toArray, List.map_cons, List.map_nil, hs, hx, hrun]
  have hg : ∃ g cap, v' = .slice (some ⟨g, 0, none⟩) (n + 1) cap := by
    rcases a1.2 with ⟨_, h0⟩ | ⟨g, cap, cur, hv, _⟩
    · omega
    · exact ⟨g, cap, hv⟩
  obtain ⟨g, cap, rfl⟩ := hg
  exact h g cap w' a1 a2 (by simpa [Value.ownBlock] using a4)
/-- Block b begins with the cells xs. -/
def FtAt (W : World) (b : Nat) (xs : List Value) : Prop := ∀ j u, xs[j]? = some u → W.cell? ⟨b, j, none⟩ = some u
theorem FtAt.add {W : World} {b : Nat} {xs : List Value} (h : FtAt W b xs) : ∀ j u, xs[j]? = some u → W.cell? ((⟨b, 0, none⟩ : Addr).add j) = some u := fun j u hu => by rw [add_plain, Nat.zero_add]; exact h j u hu
theorem FtAt.new (X : World) (t : TypeId) (cs : List Value) {n : Nat} (hn : n = X.heap.size) : FtAt (X.alloc (.cells cs.toArray t)) n cs := fun j u hu => by
  have := news_new X t cs n hn j u hu
  rwa [add_plain, Nat.zero_add] at this
theorem FtAt.lt {W : World} {b : Nat} {u : Value} {xs : List Value} (h : FtAt W b (u :: xs)) : b < W.heap.size := by
  have := h 0 u rfl
  rcases Nat.lt_or_ge b W.heap.size with h1 | h1
  · exact h1
  · simp [World.cell?, Array.getElem?_eq_none h1] at this
theorem FtAt.alloc {W : World} {b : Nat} {u : Value} {xs : List Value} (h : FtAt W b (u :: xs)) (o : Obj) : FtAt (W.alloc o) b (u :: xs) := fun j z hz => (((Below.refl W.heap.size W).alloc (Nat.le_refl _) o).cell (p := ⟨b, j, none⟩) h.lt).trans (h j z hz)
theorem FtAt.grown {W W' : World} {b : Nat} {u : Value} {xs : List Value} {r : Option Nat} (h : FtAt W b (u :: xs)) (hg : W.grownBy W' r) (hr : r ≠ some b) : FtAt W' b (u :: xs) := fun j z hz => (grown_cell hg (p := ⟨b, j, none⟩) h.lt fun e => hr e.symm).trans (h j z hz)
theorem FtAt.drew {W : World} {b : Nat} {xs : List Value} (h : FtAt W b xs) : FtAt W.drew b xs := h
theorem FtAt.below {W W' : World} {b : Nat} {u : Value} {xs : List Value} (h : FtAt W b (u :: xs)) (hb : Below W.heap.size W W') : FtAt W' b (u :: xs) := fun j z hz => (hb.cell (p := ⟨b, j, none⟩) h.lt).trans (h j z hz)
set_option maxRecDepth 100000 in
set_option maxHeartbeats 8000000 in
theorem add_any (l : List Ft) (x : Ft) (v : Value) (P : Nat → Prop) (w : World) (h : FtsM P w v l) (hl : l.length * 24 + 24 ≤ 140737488355328) (hx : x.1.length ≤ maxLen) :
    Calls Tryz.prog 7 #[v, .agg #[.string (Bs x.1), .int .i64 x.2]] w fun e w' => ∃ (out : List Ft) (v' : Value), e = .returned v' ∧ FtsM (fun _ => True) w' v' out ∧ (∀ y ∈ l, y ∈ out) ∧ Below w.heap.size w w' := by
  have hb1 := (Below.refl w.heap.size w).alloc (Nat.le_refl _) (.cells #[.string (Bs x.1), .int .i64 x.2] 30)
  have hk1 := Blk.new w 30 #[.string (Bs x.1), .int .i64 x.2]
  have HCo := Lib.hid (contains_any l v P (Bs x.1) w.heap.size _ (h.later hb1) hk1.lt (by simp))
  have HH := Lib.hid h
  have HK := Lib.hid hk1
  have HB := Lib.hid hb1
  have HX := Lib.hid hx
  have HL := Lib.hid hl
  clear h hl hx hb1 hk1
  obtain ⟨A, c, rfl⟩ := HH.out.1.form
  obtain ⟨xn, xv⟩ := x
  dsimp only at *
  go_enter Tryz.func7, Tryz.ntmps7
  go_wp2_with fail
  generalize w.alloc (.cells #[.string (Bs xn), .int .i64 xv] 30) = w1 at *
  refine HCo.out.mono ?_
  rintro e w2 ⟨b, rfl, hb2⟩
  have HB2 := Lib.hid (HB.out.trans (hb2.mono HB.out.size))
  have HK2 := Lib.hid (HK.out.below hb2 HK.out.lt)
  clear hb2 HB HK HCo
  cases b with
  | true =>
    go_wp2_with fail
    go_ret
    exact ⟨l, _, rfl, ⟨(HH.out.later HB2.out).1.mono fun _ _ _ => trivial, HH.out.2⟩, fun y hy => hy, HB2.out⟩
  | false =>
    have hl := HL.out
    have HCl : Hid (∀ W, Below w2.heap.size w2 W → Calls Tryz.prog 17 #[.slice A l.length c] W fun e w' => ∃ A' c', e = .returned (.slice A' l.length c') ∧ w'.ownsRow w2.heap.size 30 2 (.slice A' l.length c') l.length (fcells l) ∧ Below W.heap.size W w' ∧ Below w2.heap.size w2 w' ∧ w'.cell? ⟨w.heap.size, 0, none⟩ = some (.string (Bs xn)) ∧ w'.cell? ⟨w.heap.size, 1, none⟩ = some (.int .i64 xv) ∧ w.heap.size < w'.heap.size) := fun W hW =>
      (clonef_any l _ P W (HH.out.later (HB2.out.trans (hW.mono HB2.out.size))) HL.out).mono fun e w' ⟨v', h1, h2, h3⟩ => by
        obtain ⟨A', c', rfl⟩ := own_form h2
        have hk := HK2.out.below (hW.trans (h3.mono hW.size)) HK2.out.lt
        exact ⟨A', c', h1, own_base h2 hW.size, h3, hW.trans (h3.mono hW.size), by simpa using hk.cell 0, by simpa using hk.cell 1, hk.lt⟩
    have HFc : Hid (fcells l ++ [.string (Bs xn), .int .i64 xv] = fcells (l ++ [(xn, xv)])) := by rw [fcells_append]; rfl
    have M1 : Hid (FtAt (w2.alloc (.cells #[.string (Bs xn), .int .i64 xv] 30)) w2.heap.size [.string (Bs xn), .int .i64 xv]) := FtAt.new _ _ _ rfl
    have f0 : w2.cell? ⟨w.heap.size, 0, none⟩ = some (.string (Bs xn)) := by simpa using HK2.out.cell 0
    have f1 : w2.cell? ⟨w.heap.size, 1, none⟩ = some (.int .i64 xv) := by simpa using HK2.out.cell 1
    have fl := HK2.out.lt
    have HFX : Hid (∀ y ∈ l ++ [(xn, xv)], y.1.length ≤ maxLen) := fun y hy => by
      rcases List.mem_append.1 hy with h | h
      · exact HH.out.2 y h
      · rw [List.mem_singleton.1 h]; exact HX.out
    clear HH HX
    generalize Bs xn = XN at *
    go_upto_region 3 with (fail)
    go_region_law (first
      | (refine step_pushk eFf rfl (.tmp 11) (.tmp 13) rfl w2.heap.size (.slice A3 l.length c3) l.length _ rfl (by first | exact HO3.out | exact own_below HO3.out ((Below.refl w3.heap.size w3).alloc (Nat.le_refl _) _)) ⟨_, 0, none⟩ 1 [.string XN, .int .i64 xv] rfl rfl (by first | exact (FtAt.new w3 _ _ rfl).add | exact (HM.out _ _ _ M1.out.drew).add) (by simp [Value.oneCell']) (by omega) (by omega) (by omega) (by (try simp); omega) ?_; intro g7 c7 w7 hown7 hg7 hk7; have HO7 := Lib.hid hown7; have HB7 : Hid (Below w2.heap.size w2 w7) := (by first | exact HB3.out.grown hg7 hs3 (fun k hk => (own_lt HO3.out k hk).1) | exact (HB3.out.alloc hs3 _).grown hg7 (by simp; omega) (fun k hk => (own_lt HO3.out k hk).1)); clear hown7 hg7 hk7)
      | (go_simp; go_at_call 17; refine (HCl.out _ (by first | exact (Below.refl _ _).drew | exact ((Below.refl _ _).alloc (Nat.le_refl _) _).drew)).mono ?_; rintro e w3 ⟨A3, c3, rfl, ho3, hb3, hbb3, g0, g1, gl⟩; have HO3 := Lib.hid ho3; have HB3 := Lib.hid hbb3; have HM := Lib.hid (fun b u xs (h : FtAt _ b (u :: xs)) => h.below hb3); have hs3 := hbb3.size; clear ho3 hb3 hbb3))
    all_goals
      have h7 := HO7.out
      rw [HFc.out, show l.length + 1 = (l ++ [(xn, xv)]).length by simp] at h7
      obtain ⟨g', cap', ev, hgb, hgl, hH, hc1, hc2⟩ := holdsk_own h7 (by simp)
      injection ev with e1 _ e3
      injection e1 with e1
      injection e1 with e1
      subst e1; subst e3
      have HS := sortft_any (l ++ [(xn, xv)]) g7 c7 w7 hH hgl (by simp; omega)
      rw [show (l ++ [(xn, xv)]).length = l.length + 1 by simp] at HS hc1
      have HS' := Lib.hid HS
      clear h7 hH HS
      go_wp2_with fail
      refine HS'.out.mono ?_
      rintro e w8 ⟨rfl, hfr, zs, hp, hz, hgz⟩
      have hlen : zs.length = l.length + 1 := by rw [hp.length_eq]; simp
      have hs := slm_holds hz hgz (by rw [hlen]; exact hc1) hc2
      rw [hlen] at hs
      have HFt : Hid (FtsM (fun _ => True) w8 (.slice (some ⟨g7, 0, none⟩) (l.length + 1) c7) zs) := ⟨by rw [hlen]; exact hs, fun y hy => HFX.out y (hp.mem_iff.1 hy)⟩
      have HPm : Hid (∀ y ∈ l, y ∈ zs) := fun y hy => hp.mem_iff.2 (List.mem_append_left _ hy)
      have HBf : Hid (Below w.heap.size w w8) := HB2.out.trans ((HB7.out.trans ((hfr.below (B := w2.heap.size) HB7.out.size (fun k e => e ▸ hgb)).mono (Nat.le_refl _))).mono HB2.out.size)
      clear hfr hp hz hs hlen hgz
      go_wp2_with fail
      go_ret
      exact ⟨zs, _, rfl, HFt.out, HPm.out, HBf.out⟩
end Go.Proofs.YtonmpealebggoaaGreatDoor
