/- The walk of Faults. -/
import Derived.Test.YtcnoehaemankiaaFaultsPlain
namespace Go.Proofs.Ytcnoehaemankiaa
open Go.RowKit
theorem eBool48 : ElemT Try.prog 48 4 (.bool false) 1 := ElemT.mk_ Try.underlying48 (by kernel_rfl) rfl
theorem grown_set {w a : World} {g : Nat} (h : w.grownBy a (some g)) (k : Nat) (u : Value) : w.grownBy (a.setCell ⟨g, k, none⟩ u) (some g) :=
  ⟨h.os, h.tape, h.output, by simpa [World.setCell] using h.size, fun i hi hne => (Below.heap_setCell a _ u i (fun e => hne (by rw [e]))).trans (h.block i hi hne)⟩
def BadPost (w : World) (e : Ending) (w' : World) : Prop := ∃ z : Int, z ≠ 0 ∧ e = .returned (.tuple #[.agg #[.slice none 0 0, .slice none 0 0, .slice none 0 0], .int .i64 z]) ∧ Below w.heap.size w w'
def GoodPost (o : List Int) (m : Nat) (w : World) (e : Ending) (w' : World) : Prop :=
  ∃ (K : List Nat) (vm ve vv : Value) (mw : Int), KI o o.length mw K ∧ e = .returned (.tuple #[.agg #[vm, ve, vv], .int .i64 0]) ∧ Sl w' (fun _ => True) vm (ints (missTo o m)) ∧ Sl w' (fun _ => True) ve (ints (extraTo o K o.length)) ∧ Sl w' (fun _ => True) vv (ints (movedTo o K o.length)) ∧ Below w.heap.size w w'
def FaultsPost (o : List Int) (m : Int) (w : World) (e : Ending) (w' : World) : Prop := (¬ FOk o m ∧ BadPost w e w') ∨ (FOk o m ∧ GoodPost o m.toNat w e w')
/-- The second loop: what is missing is collected in the first field. -/
structure L2 (w3 : World) (g : Nat) (wr : World) (vm : Value) (L : List Int) : Prop where
  lt : g < w3.heap.size
  gr : w3.grownBy wr (some g)
  blk : Blk wr g 36 #[vm, .slice none 0 0, .slice none 0 0]
  own : wr.ownsRow w3.heap.size 3 1 vm L.length (ints L)
theorem L2.ne {w3 wr : World} {g : Nat} {vm : Value} {L : List Int} (h : L2 w3 g wr vm L) : some g ≠ vm.ownBlock := fun e => by
  have := (own_lt h.own g e.symm).1; have := h.lt; omega
theorem L2.mid {w3 wr w4 : World} {g : Nat} {vm : Value} {L : List Int} {o : Obj} (h : L2 w3 g wr vm L) (hg : (wr.alloc o).grownBy w4 vm.ownBlock) : Blk w4 g 36 #[vm, .slice none 0 0, .slice none 0 0] := (h.blk.alloc o).grown hg h.ne
theorem L2.push {w3 wr w4 : World} {g : Nat} {vm v4 : Value} {L : List Int} {o : Obj} {x : Int} (h : L2 w3 g wr vm L) (hg : (wr.alloc o).grownBy w4 vm.ownBlock) (ho : w4.ownsRow w3.heap.size 3 1 v4 (L.length + 1) (ints L ++ [.int .i64 x])) : L2 w3 g (w4.setCell ⟨g, 0, none⟩ v4) v4 (L ++ [x]) := by
  refine ⟨h.lt, ?_, ?_, ?_⟩
  · refine grown_set ?_ 0 v4
    refine grown_trans (grown_alloc h.gr o) hg fun k hk => .inr ?_
    exact (own_lt h.own k hk).1
  · have := (h.mid hg).put 0 v4
    simpa using this
  · rw [List.length_append, ints_append]
    exact own_setCell ho (.inl (by simp [h.lt])) _
/-- The third loop: what came twice, and what moved. -/
structure L3 (w5 : World) (g : Nat) (wr : World) (vm ve vv : Value) (Le Lv : List Int) : Prop where
  lt : g < w5.heap.size
  gr : w5.grownBy wr (some g)
  blk : Blk wr g 36 #[vm, ve, vv]
  e : wr.ownsRow w5.heap.size 3 1 ve Le.length (ints Le)
  v : wr.ownsRow w5.heap.size 3 1 vv Lv.length (ints Lv)
  d : ∀ k, ve.ownBlock = some k → vv.ownBlock ≠ some k
theorem L3.alloc {w5 wr : World} {g : Nat} {vm ve vv : Value} {Le Lv : List Int} (h : L3 w5 g wr vm ve vv Le Lv) (o : Obj) : L3 w5 g (wr.alloc o) vm ve vv Le Lv :=
  ⟨h.lt, grown_alloc h.gr o, h.blk.alloc o, h.e.alloc o, h.v.alloc o, h.d⟩
theorem L3.same {w5 wr w' : World} {g : Nat} {vm ve vv : Value} {Le Lv : List Int} (h : L3 w5 g wr vm ve vv Le Lv) (hs : Same wr w') : L3 w5 g w' vm ve vv Le Lv := by
  obtain ⟨q, rfl⟩ := hs
  exact ⟨h.lt, grown_drewN h.gr q, h.blk, h.e, h.v, h.d⟩
theorem L3.midE {w5 wr w4 : World} {g : Nat} {vm ve vv : Value} {Le Lv : List Int} {o : Obj} (h : L3 w5 g wr vm ve vv Le Lv) (hg : (wr.alloc o).grownBy w4 ve.ownBlock) : Blk w4 g 36 #[vm, ve, vv] :=
  (h.blk.alloc o).grown hg fun e => by have := (own_lt h.e g e.symm).1; have := h.lt; omega
theorem L3.midV {w5 wr w4 : World} {g : Nat} {vm ve vv : Value} {Le Lv : List Int} {o : Obj} (h : L3 w5 g wr vm ve vv Le Lv) (hg : (wr.alloc o).grownBy w4 vv.ownBlock) : Blk w4 g 36 #[vm, ve, vv] :=
  (h.blk.alloc o).grown hg fun e => by have := (own_lt h.v g e.symm).1; have := h.lt; omega
theorem L3.pushE {w5 wr w4 : World} {g : Nat} {vm ve vv v4 : Value} {Le Lv : List Int} {o : Obj} {x : Int} (h : L3 w5 g wr vm ve vv Le Lv) (hg : (wr.alloc o).grownBy w4 ve.ownBlock) (ho : w4.ownsRow w5.heap.size 3 1 v4 (Le.length + 1) (ints Le ++ [.int .i64 x]))
    (hk : v4.ownBlock = ve.ownBlock ∨ v4.ownBlock = some (wr.alloc o).heap.size) : L3 w5 g (w4.setCell ⟨g, 1, none⟩ v4) vm v4 vv (Le ++ [x]) Lv := by
  refine ⟨h.lt, ?_, ?_, ?_, ?_, fun k e e2 => ?_⟩
  · exact grown_set (grown_trans (grown_alloc h.gr o) hg fun k hk => .inr (own_lt h.e k hk).1) 1 v4
  · have := (h.midE hg).put 1 v4
    simpa using this
  · rw [List.length_append, ints_append]
    exact own_setCell ho (.inl (by simp [h.lt])) _
  · refine own_setCell ((h.v.alloc o).kept hg ?_) (.inl (by simp [h.lt])) _
    rcases hvv : vv.ownBlock with _ | k
    · exact .inl rfl
    · exact .inr fun e => h.d k e.symm hvv
  · rcases hk with e3 | e3
    · exact h.d k (by rw [← e3]; exact e) e2
    · rw [e3] at e; injection e with e
      have := (own_lt h.v k e2).2
      simp at e; omega
theorem L3.pushV {w5 wr w4 : World} {g : Nat} {vm ve vv v4 : Value} {Le Lv : List Int} {o : Obj} {x : Int} (h : L3 w5 g wr vm ve vv Le Lv) (hg : (wr.alloc o).grownBy w4 vv.ownBlock) (ho : w4.ownsRow w5.heap.size 3 1 v4 (Lv.length + 1) (ints Lv ++ [.int .i64 x]))
    (hk : v4.ownBlock = vv.ownBlock ∨ v4.ownBlock = some (wr.alloc o).heap.size) : L3 w5 g (w4.setCell ⟨g, 2, none⟩ v4) vm ve v4 Le (Lv ++ [x]) := by
  refine ⟨h.lt, ?_, ?_, ?_, ?_, fun k e e2 => ?_⟩
  · exact grown_set (grown_trans (grown_alloc h.gr o) hg fun k hk => .inr (own_lt h.v k hk).1) 2 v4
  · have := (h.midV hg).put 2 v4
    simpa using this
  · refine own_setCell ((h.e.alloc o).kept hg ?_) (.inl (by simp [h.lt])) _
    rcases hve : ve.ownBlock with _ | k
    · exact .inl rfl
    · exact .inr fun e => h.d k hve e.symm
  · rw [List.length_append, ints_append]
    exact own_setCell ho (.inl (by simp [h.lt])) _
  · rcases hk with e3 | e3
    · exact h.d k e (by rw [← e3]; exact e2)
    · rw [e3] at e2; injection e2 with e2
      have := (own_lt h.e k e).2
      simp at e2; omega
theorem sl_far3 {w : World} {ok : Nat → Prop} {v : Value} {xs : List Value} (h : Sl w ok v xs) (g : Nat) (hg : ¬ ok g) (a b c : Value) : Sl (((w.setCell ⟨g, 0, none⟩ a).setCell ⟨g, 1, none⟩ b).setCell ⟨g, 2, none⟩ c) ok v xs := ((h.far (p := ⟨g, 0, none⟩) hg a).far (p := ⟨g, 1, none⟩) hg b).far (p := ⟨g, 2, none⟩) hg c
theorem has_yes {P : Prop} {w w' : World} {e : Ending} (h : HasPost P w e w') (hp : P) : e = .returned (.bool true) ∧ Same w w' := by
  obtain ⟨⟨p, he, hb⟩, hs⟩ := h
  rw [hb.2 hp] at he
  exact ⟨he, hs⟩
theorem has_no {P : Prop} {w w' : World} {e : Ending} (h : HasPost P w e w') (hp : ¬ P) : e = .returned (.bool false) ∧ Same w w' := by
  obtain ⟨⟨p, he, hb⟩, hs⟩ := h
  have : p = false := by cases p with | false => rfl | true => exact absurd (hb.1 rfl) hp
  rw [this] at he
  exact ⟨he, hs⟩
set_option maxHeartbeats 4000000 in
set_option maxRecDepth 100000 in
theorem faults_any (v : Value) (o : List Int) (m : Int) (w : World) (ok : Nat → Prop) (h : Sl w ok v (ints o)) :
    Calls Try.prog 12 #[v, .int .i64 m] w (FaultsPost o m w) := by
  obtain ⟨A, cap, rfl⟩ := h.form
  have hm : o.length ≤ 9223372036854775807 := by have := h.cap_le; rw [ints_length] at this; unfold maxLen at this; omega
  rw [ints_length] at h ⊢
  have HS := Lib.hid h
  have HBad : Hid (∀ (w' : World) (z : Int), z ≠ 0 → ¬ FOk o m → Below w.heap.size w w' → FaultsPost o m w (.returned (.tuple #[.agg #[.slice none 0 0, .slice none 0 0, .slice none 0 0], .int .i64 z])) w') := fun w' z h1 h2 h3 => .inl ⟨h2, z, h1, rfl, h3⟩
  have HGood : Hid (∀ (w' : World) (K : List Nat) (vm ve vv : Value) (mw : Int), FOk o m → KI o o.length mw K → Sl w' (fun _ => True) vm (ints (missTo o m.toNat)) → Sl w' (fun _ => True) ve (ints (extraTo o K o.length)) → Sl w' (fun _ => True) vv (ints (movedTo o K o.length)) → Below w.heap.size w w' →
      FaultsPost o m w (.returned (.tuple #[.agg #[vm, ve, vv], .int .i64 0])) w') := fun w' K vm ve vv mw h1 h2 h3 h4 h5 h6 => .inr ⟨h1, K, vm, ve, vv, mw, h2, rfl, h3, h4, h5, h6⟩
  generalize FaultsPost o m w = Post at *
  have HN1 : Hid (m < 1 → ¬ FOk o m) := fun h1 h2 => by have := h2.n1; omega
  have HN2 : Hid (64 < m → ¬ FOk o m) := fun h1 h2 => by have := h2.n2; omega
  have HN3 : Hid (64 < o.length → ¬ FOk o m) := fun h1 h2 => by have := h2.len; omega
  have HN4 : Hid (∀ i, i < o.length → ¬ (0 ≤ at_ o i ∧ at_ o i < m) → ¬ FOk o m) := fun i hi h1 h2 => h1 (h2.rng i hi)
  have HOk : Hid (1 ≤ m → m ≤ 64 → o.length ≤ 64 → (∀ i, i < o.length → 0 ≤ at_ o i ∧ at_ o i < m) → FOk o m) := fun a b c d => ⟨a, b, c, d⟩
  generalize FOk o m = Ok at *
  generalize hnn : o.length = n at *
  have HN := Lib.hid hnn
  clear h hnn
  by_cases h1 : m < 1
  · have hb := Lib.hid (HN1.out h1)
    go_enter Try.func12, Try.ntmps12
    go_wp2
    exact bodyPost_ret (v := .tuple #[.agg #[.slice none 0 0, .slice none 0 0, .slice none 0 0], .int .i64 3]) (by simp [results, Try.results12, go_sem]) rfl (HBad.out _ 3 (by decide) hb.out (((Below.refl _ _).alloc (Nat.le_refl _) _).alloc (by simp) _))
  · by_cases h2 : 64 < m
    · have hb := Lib.hid (HN2.out h2)
      go_enter Try.func12, Try.ntmps12
      go_wp2
      exact bodyPost_ret (v := .tuple #[.agg #[.slice none 0 0, .slice none 0 0, .slice none 0 0], .int .i64 3]) (by simp [results, Try.results12, go_sem]) rfl (HBad.out _ 3 (by decide) hb.out (((Below.refl _ _).alloc (Nat.le_refl _) _).alloc (by simp) _))
    · by_cases h3 : 64 < n
      · have hb := Lib.hid (HN3.out h3)
        go_enter Try.func12, Try.ntmps12
        go_wp2
        exact bodyPost_ret (v := .tuple #[.agg #[.slice none 0 0, .slice none 0 0, .slice none 0 0], .int .i64 2]) (by simp [results, Try.results12, go_sem]) rfl (HBad.out _ 2 (by decide) hb.out (((Below.refl _ _).alloc (Nat.le_refl _) _).alloc (by simp) _))
      · obtain ⟨mm, rfl⟩ := Int.eq_ofNat_of_zero_le (show 0 ≤ m by omega)
        have hmk := fun w => run_mk eBool48 rfl mm (by omega) (by omega) (mm : Int) rfl w
        obtain ⟨w1, hw1⟩ : ∃ w1, w1 = (((w.alloc (.cells #[.slice A n cap] 31)).alloc (.cells #[.slice none 0 0, .slice none 0 0, .slice none 0 0] 36)).alloc (.cells (Array.replicate mm (.bool false)) 4)) := ⟨_, rfl⟩
        have HW1 := Lib.hid hw1
        have HBx : Hid (Blk w1 w.heap.size 31 #[.slice A n cap]) := by rw [hw1]; exact ((Blk.new _ _ _).alloc _).alloc _
        have HRs : Hid (Blk w1 (w.heap.size + 1) 36 #[.slice none 0 0, .slice none 0 0, .slice none 0 0]) := by
          have := (Blk.new (w.alloc (.cells #[.slice A n cap] 31)) 36 #[.slice none 0 0, .slice none 0 0, .slice none 0 0]).alloc (.cells (Array.replicate mm (.bool false)) 4)
          unfold Hid; rw [hw1]; simpa using this
        have HMk : Hid (Row w1 (w.heap.size + 1 + 1) (marks (o.take 0) mm)) := by
          have := (Blk.new ((w.alloc (.cells #[.slice A n cap] 31)).alloc (.cells #[.slice none 0 0, .slice none 0 0, .slice none 0 0] 36)) 4 (Array.replicate mm (.bool false))).row
          unfold Hid; rw [hw1, List.take_zero, marks_nil]; simpa using this
        have HB0 : Hid (Below w.heap.size w w1) := by rw [hw1]; exact (((Below.refl _ _).alloc (Nat.le_refl _) _).alloc (by simp) _).alloc (by simp; omega) _
        clear HN1 HN2 HN3 hw1
        go_enter Try.func12, Try.ntmps12
        go_wp2
        clear hmk
        rw [← HW1.out]
        go_loopw [30] (fun vi wr => ∃ j : Nat, j ≤ n ∧ vi = .int .i64 j ∧ Row wr (w.heap.size + 1 + 1) (marks (o.take j) mm) ∧ w1.grownBy wr (some (w.heap.size + 1 + 1)) ∧ ∀ i, i < j → 0 ≤ at_ o i ∧ at_ o i < (mm : Int)) (fun i _ => n - (intOf i).toNat)
        case atStart => exact ⟨0, by omega, rfl, HMk.out, World.grownBy.refl _ _, fun i hi => by omega⟩
        case round =>
          obtain ⟨j, hj, rfl, hrow, hgr, hall⟩ := hrel
          have hbl := HB0.out.grown hgr HB0.out.size (fun k hk => by injection hk with hk; omega)
          have HBl := Lib.hid hbl
          have HGr := Lib.hid hgr
          have HAll := Lib.hid hall
          by_cases hjn : j < n
          · obtain ⟨b, off, hA, hbb, hc⟩ := (HS.out.later hbl).plainA (by rw [ints_length, HN.out]; omega)
            subst hA
            have d1 := hc j _ (ints_get (by rw [HN.out]; exact hjn))
            have HX : Hid (at_ o j = o.getD j 0) := rfl
            rw [← HX.out] at d1
            have HRow := Lib.hid hrow
            clear hc hbl hgr hall hrow
            by_cases hr : 0 ≤ at_ o j ∧ at_ o j < (mm : Int)
            · have HIn := Lib.hid hr
              obtain ⟨k, hk⟩ := Int.eq_ofNat_of_zero_le hr.1
              rw [hk] at d1 hr
              have hkm : k < mm := by omega
              have c1 := HRow.out.cell k _ (marks_at (o.take j) mm k hkm)
              have c2 := HRow.out.free k (by rw [marks_len]; exact hkm)
              have c3 := HRow.out.lt
              have HK := Lib.hid hk
              clear hk hr
              go_wp2
              go_roundw
              case rel =>
                refine ⟨j + 1, by omega, by go_num, ?_, grown_set HGr.out k _, fun i hi => ?_⟩
                · have e : o.take (j + 1) = o.take j ++ [(k : Int)] := by
                    have hjl : j < o.length := by rw [HN.out]; exact hjn
                    rw [List.take_succ_eq_append_getElem hjl]
                    congr 2
                    have := HK.out
                    rw [HX.out, List.getD_eq_getElem?_getD, List.getElem?_eq_getElem hjl] at this
                    exact this
                  rw [e, marks_push]
                  exact HRow.out.put (by rw [marks_len]; exact hkm) _
                · rcases Nat.lt_or_ge i j with h | h
                  · exact HAll.out i h
                  · rw [show i = j by omega]; exact HIn.out
              case measure => simp [intOf]; omega
            · have hb := Lib.hid (HN4.out j hjn hr)
              have HR2 := Lib.hid (HRs.out.grown HGr.out (by simp))
              have r0 := HR2.out.cell 0
              have r1 := HR2.out.cell 1
              have r2 := HR2.out.cell 2
              have r3 := HR2.out.frozen 0
              have r4 := HR2.out.frozen 1
              have r5 := HR2.out.frozen 2
              have r6 := HR2.out.lt
              simp only [List.getElem?_toArray, List.getElem?_cons_zero, List.getElem?_cons_succ] at r0 r1 r2
              generalize at_ o j = x at *
              by_cases hx0 : x < 0
              · go_wp2
                have HR3 := ((HR2.out.put 0 (.slice none 0 0)).put 1 (.slice none 0 0)).put 2 (.slice none 0 0)
                have q0 := HR3.cell 0
                have q1 := HR3.cell 1
                have q2 := HR3.cell 2
                simp only [List.setIfInBounds_toArray, List.set_cons_zero, List.set_cons_succ, List.getElem?_toArray, List.getElem?_cons_zero, List.getElem?_cons_succ] at q0 q1 q2
                exact bodyPost_ret (v := .tuple #[.agg #[.slice none 0 0, .slice none 0 0, .slice none 0 0], .int .i64 3]) (by simp [results, Try.results12, go_sem, q0, q1, q2]) rfl (HBad.out _ 3 (by decide) hb.out (((HBl.out.setCell (by simp) _).setCell (by simp) _).setCell (by simp) _))
              · have hxm : (mm : Int) ≤ x := by omega
                go_wp2
                have HR3 := ((HR2.out.put 0 (.slice none 0 0)).put 1 (.slice none 0 0)).put 2 (.slice none 0 0)
                have q0 := HR3.cell 0
                have q1 := HR3.cell 1
                have q2 := HR3.cell 2
                simp only [List.setIfInBounds_toArray, List.set_cons_zero, List.set_cons_succ, List.getElem?_toArray, List.getElem?_cons_zero, List.getElem?_cons_succ] at q0 q1 q2
                exact bodyPost_ret (v := .tuple #[.agg #[.slice none 0 0, .slice none 0 0, .slice none 0 0], .int .i64 3]) (by simp [results, Try.results12, go_sem, q0, q1, q2]) rfl (HBad.out _ 3 (by decide) hb.out (((HBl.out.setCell (by simp) _).setCell (by simp) _).setCell (by simp) _))
          · obtain rfl : j = n := by omega
            have hok := HOk.out (by omega) (by omega) (by omega) hall
            have HOK := Lib.hid hok
            rw [List.take_of_length_le (by rw [HN.out]; exact Nat.le_refl _)] at hrow
            obtain ⟨wl, rfl⟩ : ∃ wl : World, wl = wr := ⟨_, rfl⟩
            have HRow := Lib.hid hrow
            have HLo := Lib.hid (longest_any (.slice A j cap) o wl _ (HS.out.later hbl) (by rw [HN.out]; omega))
            have HBx2 := Lib.hid (HBx.out.grown hgr (by simp; omega))
            have HRs2 := Lib.hid (HRs.out.grown hgr (by simp))
            have y0 := HBx2.out.cell 0
            simp only [List.getElem?_toArray, List.getElem?_cons_zero] at y0
            clear hok hall hrow hbl hgr HOk HN4 HBad HRs HBx HMk HB0 HAll HW1
            go_wp2_with (go_at_call 20; refine HLo.out.mono ?_; rintro e w2 ⟨K, vk, mw, hKI, rfl, hown, hb2⟩; have HKI := Lib.hid hKI; have HOw := Lib.hid hown; have HB2 := Lib.hid hb2; clear hKI hown hb2)
            obtain ⟨w3, hw3⟩ : ∃ w3, w3 = w2.alloc (Obj.cells #[Value.slice none 0 0, Value.slice none 0 0, Value.slice none 0 0] 36) := ⟨_, rfl⟩
            rw [← hw3]
            have hs3 : w3.heap.size = w2.heap.size + 1 := by rw [hw3]; simp
            have HBl2 := Lib.hid (HBl.out.trans (HB2.out.mono HBl.out.size))
            have hsz := HB2.out.size
            have hl2 : w.heap.size + 1 + 1 < wl.heap.size := HRow.out.lt
            have HL2 : Hid (L2 w3 w2.heap.size w3 (.slice none 0 0) (missTo o 0)) := ⟨by omega, World.grownBy.refl _ _, by rw [hw3]; exact Blk.new _ _ _, rfl, .inl ⟨rfl, rfl⟩⟩
            have HBx3 : Hid (Blk w3 w.heap.size 31 #[.slice A j cap]) := by unfold Hid; rw [hw3]; exact (HBx2.out.below HB2.out HBx2.out.lt).alloc _
            have HRs3 : Hid (Blk w3 (w.heap.size + 1) 36 #[.slice none 0 0, .slice none 0 0, .slice none 0 0]) := by unfold Hid; rw [hw3]; exact (HRs2.out.below HB2.out HRs2.out.lt).alloc _
            have HRow3 : Hid (Row w3 (w.heap.size + 1 + 1) (marks o mm)) := by unfold Hid; rw [hw3]; exact (HRow.out.below HB2.out HRow.out.lt).alloc _
            have HKs : Hid (Sl w3 (fun b => b < w2.heap.size) vk (ints (nats_ K))) := by unfold Hid; rw [hw3]; exact ((Sl.of_own HOw.out).mono fun b hb _ => hb).alloc _
            have HSo : Hid (Sl w3 (fun b => b < w2.heap.size) (.slice A j cap) (ints o)) := by unfold Hid; rw [hw3]; exact ((HS.out.later HBl2.out).mono fun b hb _ => hb).alloc _
            have HBw3 : Hid (Below w.heap.size w w3) := by unfold Hid; rw [hw3]; exact HBl2.out.alloc HBl2.out.size _
            obtain ⟨Ak, ck, rfl⟩ := own_form HOw.out
            clear y0 hw3 HGr HBl HRow HLo HBx2 HRs2 HOw HB2 HBl2
            generalize w2.heap.size = g at *
            go_loopw [50] (fun vi wr => ∃ (k : Nat) (vm : Value), k ≤ mm ∧ vi = .int .i64 k ∧ L2 w3 g wr vm (missTo o k)) (fun i _ => mm - (intOf i).toNat)
            case atStart => exact ⟨0, _, by omega, rfl, HL2.out⟩
            case round =>
              obtain ⟨k, vm, hk, rfl, hL⟩ := hrel
              have hrow := HRow3.out.grown hL.gr (by simp; omega)
              have HL := Lib.hid hL
              by_cases hkm : k < mm
              · have c1 := hrow.cell k _ (marks_at o mm k hkm)
                have hml := missTo_len o k
                have HMs := Lib.hid (missTo_succ o k)
                obtain ⟨Am, cm, rfl⟩ := own_form hL.own
                have r0 := hL.blk.cell 0
                have r1 := hL.blk.lt
                simp only [List.getElem?_toArray, List.getElem?_cons_zero] at r0
                clear hrow hL
                by_cases hmem : (k : Int) ∈ o
                · have hd : decide ((k : Int) ∈ o) = true := by simpa using hmem
                  rw [hd] at c1
                  have HM := Lib.hid hmem
                  clear hd hmem
                  go_wp2
                  go_roundw
                  case rel => exact ⟨k + 1, _, by omega, by go_num, by rw [HMs.out, if_pos HM.out, List.append_nil]; exact HL.out⟩
                  case measure => simp [intOf]; omega
                · have hd : decide ((k : Int) ∈ o) = false := by simpa using hmem
                  rw [hd] at c1
                  have HM := Lib.hid hmem
                  clear hd hmem
                  generalize missTo o k = Lm at *
                  go_wp2_with (at_builtin; refine wpList_push eInt rfl (.tmp 58) (.tmp 60) rfl w3.heap.size (.slice Am Lm.length cm) Lm.length _ rfl (HL.out.own.alloc _) ⟨wr.heap.size, 0, none⟩ 1 (.int .i64 (k : Int)) rfl (new_one _ _ _) rfl (by omega) (by omega) (le_alloc HL.out.gr.size _) ?_; intro v4 w4 hown4 hg4 hk4; obtain ⟨A4, c4, rfl⟩ := own_form hown4; have HO4 := Lib.hid hown4; have HG4 := Lib.hid hg4; have b4 := HL.out.mid hg4; have q0 := b4.cell 0; have q1 := b4.frozen 0; have q2 := b4.lt; simp only [List.getElem?_toArray, List.getElem?_cons_zero] at q0; clear hown4 hg4 hk4 b4)
                  go_roundw
                  case rel => exact ⟨k + 1, _, by omega, by go_num, by rw [HMs.out, if_neg HM.out]; exact HL.out.push HG4.out HO4.out⟩
                  case measure => simp [intOf]; omega
              · obtain rfl : k = mm := by omega
                obtain ⟨w5, rfl⟩ : ∃ w5 : World, w5 = wr := ⟨_, rfl⟩
                have HBx5 := Lib.hid (HBx3.out.grown hL.gr (by simp; omega))
                have HRs5 := Lib.hid (HRs3.out.grown hL.gr (by simp; omega))
                have HKs5 := Lib.hid (HKs.out.grown hL.gr (fun b hb e => by injection e with e; omega))
                have HSo5 := Lib.hid (HSo.out.grown hL.gr (fun b hb e => by injection e with e; omega))
                have HVm := Lib.hid ((Sl.of_own hL.own).mono (ok' := fun b => b ≠ g ∧ b < w5.heap.size ∧ w.heap.size + 1 < b) fun b hb ⟨_, h2⟩ => ⟨by omega, hb, by omega⟩)
                have HBw5 := Lib.hid (HBw3.out.grown hL.gr HBw3.out.size (fun k hk => by injection hk with hk; omega))
                have hgl := hL.lt
                have hsz5 := hL.gr.size
                obtain ⟨Am, cm, rfl⟩ := own_form hL.own
                have HL3 : Hid (L3 w5 g w5 (.slice Am (missTo o k).length cm) (.slice none 0 0) (.slice none 0 0) (extraTo o K 0) (movedTo o K 0)) :=
                  ⟨by omega, World.grownBy.refl _ _, hL.blk, by simp [extraTo]; exact ⟨rfl, .inl ⟨rfl, rfl⟩⟩, by simp [movedTo]; exact ⟨rfl, .inl ⟨rfl, rfl⟩⟩, fun k h => by simp [Value.ownBlock] at h⟩
                have y0 := HBx5.out.cell 0
                simp only [List.getElem?_toArray, List.getElem?_cons_zero] at y0
                have hKl := HKI.out.keep.len
                have hKlt : Hid (∀ a, a < K.length → kat K a < j) := fun a ha => by have := HKI.out.keep.lt a ha; rw [HN.out] at this; exact this
                rw [HN.out] at hKl
                clear hL hrow HBx3 HRs3 HRow3 HKs HSo HBw3 HL HL2 HS
                generalize (missTo o k).length = lm at *
                generalize hkl : K.length = kl at *
                have HKl := Lib.hid hkl
                clear hkl
                go_wp2
                go_loopw [66] (fun vi wr => ∃ (i : Nat) (ve vv : Value), i ≤ j ∧ vi = .int .i64 i ∧ L3 w5 g wr (.slice Am lm cm) ve vv (extraTo o K i) (movedTo o K i)) (fun i _ => j - (intOf i).toNat)
                case atStart => exact ⟨0, _, _, by omega, rfl, HL3.out⟩
                case round =>
                  obtain ⟨i, ve, vv, hi, rfl, hL⟩ := hrel
                  have HL := Lib.hid hL
                  by_cases hij : i < j
                  · have hso := HSo5.out.grown hL.gr (fun b hb e => by injection e with e; omega)
                    obtain ⟨b, off, hA, hbb, hc⟩ := hso.plainA (by rw [ints_length, HN.out]; omega)
                    subst hA
                    have d1 := hc i _ (ints_get (by rw [HN.out]; exact hij))
                    have HX : Hid (at_ o i = o.getD i 0) := rfl
                    rw [← HX.out] at d1
                    have hks := HKs5.out.grown hL.gr (fun b hb e => by injection e with e; omega)
                    have HCo := Lib.hid (contains_ints _ (nats_ K) (i : Int) (wr.alloc (Obj.cells #[Value.int .i64 (at_ o i)] 3)) _ (hks.alloc _))
                    have hbx := (HBx5.out.grown hL.gr (by simp; omega)).alloc (Obj.cells #[Value.int .i64 (at_ o i)] 3)
                    have hcaps : Caps (wr.alloc (Obj.cells #[Value.int .i64 (at_ o i)] 3)) w.heap.size wr.heap.size (some ⟨b, off, none⟩) j cap o (at_ o i) := ⟨HN.out, by have := hbx.cell 0; simpa using this, new_one _ _ _, (hso.alloc _).mono fun _ _ _ => trivial⟩
                    have HCf := Lib.hid (containsf_any w.heap.size wr.heap.size (some ⟨b, off, none⟩) j cap o (at_ o i) _ K _ _ hcaps (by omega) (by rw [HKl.out]; exact hKlt.out) (hks.alloc _) (by rw [HKl.out]; omega))
                    have hle := extraTo_len o K i
                    have hlv := movedTo_len o K i
                    have hm := mem_nats_ K i
                    obtain ⟨Ae, ce, rfl⟩ := own_form hL.e
                    obtain ⟨Av, cv, rfl⟩ := own_form hL.v
                    have hgx : g < wr.heap.size := hL.blk.lt
                    have EY := Lib.hid (fun h => extraTo_succ_yes o K i h)
                    have EN := Lib.hid (fun h => extraTo_succ_no o K i h)
                    have MY := Lib.hid (fun h => movedTo_succ_yes o K i h)
                    have MN := Lib.hid (fun h => movedTo_succ_no o K i h)
                    have hcd : Hid ((∃ a, a < K.length ∧ at_ o (kat K a) = at_ o i) = Dup o K i) := rfl
                    rw [hcd.out] at HCf
                    clear hL hso hks hbx hcaps hc hcd
                    generalize at_ o i = x at *
                    by_cases hik : i ∈ K
                    · have hd : decide ((i : Int) ∈ nats_ K) = true := by simpa using hm.2 hik
                      rw [hd] at HCo
                      have HIK := Lib.hid hik
                      clear hd hik hm
                      go_wp2_with (go_at_call 15; refine HCo.out.mono ?_; rintro e w' ⟨rfl, rfl⟩)
                      go_roundw
                      case rel => exact ⟨i + 1, _, _, by omega, by go_num, by rw [EN.out (fun h => h.1 HIK.out), MN.out (fun h => h.1 HIK.out)]; exact HL.out.alloc _⟩
                      case measure => simp [intOf]; omega
                    · have hd : decide ((i : Int) ∈ nats_ K) = false := by rw [decide_eq_false_iff_not]; exact fun h => hik (hm.1 h)
                      rw [hd] at HCo
                      have HIK := Lib.hid hik
                      clear hd hik hm
                      by_cases hdup : Dup o K i
                      · have HCf := Lib.hid (HCf.out.mono fun e w' h => has_yes h hdup)
                        have HM := Lib.hid (MN.out (fun h => h.2 hdup))
                        have HE := Lib.hid (EY.out ⟨HIK.out, hdup⟩)
                        clear hdup EY EN MY MN
                        generalize extraTo o K i = Le at *
                        generalize movedTo o K i = Lv at *
                        go_wp2_with (first | (go_at_call 15; refine HCo.out.mono ?_; rintro e w' ⟨rfl, rfl⟩) | (go_at_call 21; refine HCf.out.mono ?_; rintro e w6 hh; obtain ⟨rfl, hs6⟩ := hh; have HL6 := Lib.hid ((HL.out.alloc (Obj.cells #[Value.int .i64 x] 3)).same hs6); have f0 := HL6.out.blk.cell 1; have f1 := HL6.out.blk.lt; simp only [List.getElem?_toArray, List.getElem?_cons_zero, List.getElem?_cons_succ] at f0; clear hs6) | (at_builtin; refine wpList_push eInt rfl (.tmp 86) (.tmp 88) rfl w5.heap.size (.slice Ae Le.length ce) Le.length _ rfl (HL6.out.e.alloc _) ⟨w6.heap.size, 0, none⟩ 1 (.int .i64 (i : Int)) rfl (new_one _ _ _) rfl (by omega) (by omega) (le_alloc HL6.out.gr.size _) ?_; intro v4 w4 hown4 hg4 hk4; obtain ⟨A4, c4, rfl⟩ := own_form hown4; have HO4 := Lib.hid hown4; have HG4 := Lib.hid hg4; have HK4 := Lib.hid hk4; have b4 := HL6.out.midE hg4; have q0 := b4.cell 1; have q1 := b4.frozen 1; have q2 := b4.lt; simp only [List.getElem?_toArray, List.getElem?_cons_zero, List.getElem?_cons_succ] at q0; clear hown4 hg4 hk4 b4 f0))
                        exact ⟨⟨i + 1, _, _, by omega, by go_num, by rw [HE.out, HM.out]; exact HL6.out.pushE HG4.out HO4.out HK4.out⟩, by simp [intOf]; omega⟩
                      · have HCf := Lib.hid (HCf.out.mono fun e w' h => has_no h hdup)
                        have HM := Lib.hid (MY.out ⟨HIK.out, hdup⟩)
                        have HE := Lib.hid (EN.out (fun h => hdup h.2))
                        clear hdup EY EN MY MN
                        generalize extraTo o K i = Le at *
                        generalize movedTo o K i = Lv at *
                        go_wp2_with (first | (go_at_call 15; refine HCo.out.mono ?_; rintro e w' ⟨rfl, rfl⟩) | (go_at_call 21; refine HCf.out.mono ?_; rintro e w6 hh; obtain ⟨rfl, hs6⟩ := hh; have HL6 := Lib.hid ((HL.out.alloc (Obj.cells #[Value.int .i64 x] 3)).same hs6); have f0 := HL6.out.blk.cell 2; have f1 := HL6.out.blk.lt; simp only [List.getElem?_toArray, List.getElem?_cons_zero, List.getElem?_cons_succ] at f0; clear hs6) | (at_builtin; refine wpList_push eInt rfl (.tmp 72) (.tmp 74) rfl w5.heap.size (.slice Av Lv.length cv) Lv.length _ rfl (HL6.out.v.alloc _) ⟨w6.heap.size, 0, none⟩ 1 (.int .i64 (i : Int)) rfl (new_one _ _ _) rfl (by omega) (by omega) (le_alloc HL6.out.gr.size _) ?_; intro v4 w4 hown4 hg4 hk4; obtain ⟨A4, c4, rfl⟩ := own_form hown4; have HO4 := Lib.hid hown4; have HG4 := Lib.hid hg4; have HK4 := Lib.hid hk4; have b4 := HL6.out.midV hg4; have q0 := b4.cell 2; have q1 := b4.frozen 2; have q2 := b4.lt; simp only [List.getElem?_toArray, List.getElem?_cons_zero, List.getElem?_cons_succ] at q0; clear hown4 hg4 hk4 b4 f0))
                        exact ⟨⟨i + 1, _, _, by omega, by go_num, by rw [HE.out, HM.out]; exact HL6.out.pushV HG4.out HO4.out HK4.out⟩, by simp [intOf]; omega⟩
                  · obtain rfl : i = j := by omega
                    have r0 := hL.blk.cell 0
                    have r1 := hL.blk.cell 1
                    have r2 := hL.blk.cell 2
                    have r3 := hL.blk.lt
                    simp only [List.getElem?_toArray, List.getElem?_cons_zero, List.getElem?_cons_succ] at r0 r1 r2
                    obtain ⟨Ae, ce, rfl⟩ := own_form hL.e
                    obtain ⟨Av, cv, rfl⟩ := own_form hL.v
                    have HR6 := Lib.hid (HRs5.out.grown hL.gr (by simp; omega))
                    have s0 := HR6.out.cell 0
                    have s1 := HR6.out.cell 1
                    have s2 := HR6.out.cell 2
                    have s3 := HR6.out.frozen 0
                    have s4 := HR6.out.frozen 1
                    have s5 := HR6.out.frozen 2
                    have s6 := HR6.out.lt
                    simp only [List.getElem?_toArray, List.getElem?_cons_zero, List.getElem?_cons_succ] at s0 s1 s2
                    have HVe := Lib.hid (Sl.of_own hL.e)
                    have HVv := Lib.hid (Sl.of_own hL.v)
                    have HVm6 := Lib.hid (HVm.out.grown hL.gr (fun b hb e => by injection e with e; exact hb.1 e))
                    have HB6 := Lib.hid (HBw5.out.grown hL.gr HBw5.out.size (fun k hk => by injection hk with hk; omega))
                    clear hL HL3 y0
                    generalize hLe : extraTo o K i = Le at *
                    generalize hLv : movedTo o K i = Lv at *
                    have HLe := Lib.hid hLe
                    have HLv := Lib.hid hLv
                    clear hLe hLv
                    go_wp2
                    have HR7 := ((HR6.out.put 0 (.slice Am lm cm)).put 1 (.slice Ae Le.length ce)).put 2 (.slice Av Lv.length cv)
                    have q0 := HR7.cell 0
                    have q1 := HR7.cell 1
                    have q2 := HR7.cell 2
                    simp only [List.setIfInBounds_toArray, List.set_cons_zero, List.set_cons_succ, List.getElem?_toArray, List.getElem?_cons_zero, List.getElem?_cons_succ] at q0 q1 q2
                    refine bodyPost_ret (v := .tuple #[.agg #[.slice Am lm cm, .slice Ae Le.length ce, .slice Av Lv.length cv], .int .i64 0]) (by simp [results, Try.results12, go_sem, q0, q1, q2]) rfl (HGood.out _ K _ _ _ mw HOK.out (by have := HKI.out; rwa [HN.out] at this) ?_ ?_ ?_ (((HB6.out.setCell (by simp) _).setCell (by simp) _).setCell (by simp) _))
                    · exact (sl_far3 HVm6.out (w.heap.size + 1) (fun h => by have h2 : w.heap.size + 1 < w.heap.size + 1 := h.2.2; omega) _ _ _).mono fun _ _ _ => trivial
                    · rw [HLe.out]; exact (sl_far3 HVe.out (w.heap.size + 1) (fun h => by have h2 : w5.heap.size ≤ w.heap.size + 1 := h.2; omega) _ _ _).mono fun _ _ _ => trivial
                    · rw [HLv.out]; exact (sl_far3 HVv.out (w.heap.size + 1) (fun h => by have h2 : w5.heap.size ≤ w.heap.size + 1 := h.2; omega) _ _ _).mono fun _ _ _ => trivial
end Go.Proofs.Ytcnoehaemankiaa
