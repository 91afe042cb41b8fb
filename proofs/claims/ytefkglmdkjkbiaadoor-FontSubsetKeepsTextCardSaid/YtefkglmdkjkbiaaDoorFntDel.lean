/- The walks of slices.IndexFunc and slices.DeleteFunc at ints. -/
import Derived.Test.YtefkglmdkjkbiaaDoorFntSort
import Derived.Test.YtefkglmdkjkbiaaDoorFntNst
namespace Go.Proofs.YtefkglmdkjkbiaaDoor
open Go.RowKit
/-- The builtin clear at the end of a row of the call's own. -/
theorem run_clear_own {P : Program} {w : World} {t e : TypeId} {z : Value} {size bytes : Nat} (T : ElemK P t e z size bytes) (hzr : ∀ w, (zeroValue e).run P w = .ok z w) (hz1 : ∀ v ∈ (Builtin.zeroCells z.cells (1 : Nat)).toList, v.oneCell' = true) (hzn : ∀ m, ∀ v ∈ (Builtin.zeroCells z.cells m).toList, v.oneCell' = true)
    {base g n cap : Nat} {xs : List Value} (hown : w.ownsRow base e size (.slice (some ⟨g, 0, none⟩) n cap) n xs) {k : Nat} (hk : k < n) :
    ∃ w', (∀ ty c, (Builtin.clear_ #[t] ty #[.slice (some ⟨g, k * size, none⟩) (n - k) c]).run P w = .ok (.tuple #[]) w') ∧ w'.ownsRow base e size (.slice (some ⟨g, 0, none⟩) k cap) k (xs.take (k * size)) ∧ w.grownBy w' (some g) := by
  have _ := hz1
  obtain ⟨hxl, hxs⟩ := hown
  rcases hxs with ⟨hv, _⟩ | ⟨g', cap', cur, hv, hb, hg, hnc, hcm, hcs, hx⟩
  · cases hv
  · injection hv with e1 _ e2
    injection e1 with e1
    injection e1 with e1
    subst e1; subst e2
    have hzl : (Builtin.zeroCells z.cells (n - k)).toList.length = (n - k) * size := by
      simp [Builtin.zeroCells, T.hz]
    have hle : k * size + (n - k) * size = n * size := by rw [← Nat.add_mul]; congr 1; omega
    have hle2 : n * size ≤ cap * size := Nat.mul_le_mul_right _ hnc
    have hst := run_storeCells_at P g (k * size) e (Builtin.zeroCells z.cells (n - k)).toList 0 cur w hg (by rw [hzl, hcs]; omega) (hzn _)
    generalize hzs : (Builtin.zeroCells z.cells (n - k)).toList = zs at *
    refine ⟨w.setRow g (cur.toList.take (k * size + 0) ++ zs ++ cur.toList.drop (k * size + 0 + zs.length)).toArray, fun ty c => ?_, ⟨?_, .inr ⟨g, cap, (cur.toList.take (k * size + 0) ++ zs ++ cur.toList.drop (k * size + 0 + zs.length)).toArray, rfl, hb, setRow_heap w g _ _ e _ hg, by omega, hcm, ?_, ?_⟩⟩, ⟨rfl, rfl, rfl, by simp [World.setRow], fun j hj hne => setRow_other w g j _ (fun e => hne (by rw [e]))⟩⟩
    · obtain ⟨m, hm⟩ : ∃ m, n - k = m + 1 := ⟨n - k - 1, by omega⟩
      rw [hm] at hzs ⊢
      simp [Builtin.clear_, run_underlying T.ht, hzr, hzs, hst]
    · rw [List.length_take, hxl]; omega
    · have hcl : cur.toList.length = cap * size := by simpa using hcs
      simp only [List.size_toArray, List.length_append, List.length_take, List.length_drop, hzl, Nat.add_zero]
      omega
    · have hcl : cur.toList.length = cap * size := by simpa using hcs
      rw [← hx, List.take_take, Nat.min_eq_left (by omega)]
      simp only [Nat.add_zero]
      rw [List.append_assoc, List.take_append_of_le_length (by rw [List.length_take]; omega), List.take_take, Nat.min_eq_left (Nat.le_refl _)]
theorem own_put {w : World} {base g n cap k : Nat} {t : TypeId} {xs : List Value} (h : w.ownsRow base t 1 (.slice (some ⟨g, 0, none⟩) n cap) n xs) (u : Value) : (w.setCell ⟨g, k, none⟩ u).ownsRow base t 1 (.slice (some ⟨g, 0, none⟩) n cap) n (xs.set k u) := by
  obtain ⟨hl, h⟩ := h
  refine ⟨by simpa using hl, ?_⟩
  rcases h with ⟨e, _⟩ | ⟨g', cap', cur, e, hg, hh, hn, hc, hs, hx⟩
  · cases e
  · injection e with e1 _ e3
    injection e1 with e1
    injection e1 with e1
    subst e1; subst e3
    refine .inr ⟨g, cap, cur.setIfInBounds k u, rfl, hg, ?_, hn, hc, by simpa using hs, ?_⟩
    · simp [World.setCell, Array.getElem?_modify, hh]
    · rw [Array.toList_setIfInBounds, List.take_set, hx]
theorem eInt : ElemK Tryd.prog 27 3 (.int .i64 0) 1 8 := ElemK.mk_ Tryd.underlying27 (by kernel_rfl) rfl
set_option maxRecDepth 100000 in
set_option maxHeartbeats 4000000 in
/-- The first int of which p is true, for a closure that computes p. -/
theorem index_int (v : Value) (bf : Nat) (p : Int → Bool) (zs : List Int) (m : Nat) (ok : Nat → Prop) (w : World) (h : SlM w ok v zs.length (ints zs)) (hn : zs.length ≤ 100000)
    (hm : m ≤ zs.length) (h1 : ∀ i, i < m → p (zs.getD i 0) = false) (h2 : m < zs.length → p (zs.getD m 0) = true)
    (hL : ∀ c w', Below w.heap.size w w' → Calls Tryd.prog 50 #[.int .i64 c, .pointer (some ⟨bf, 0, none⟩)] w' fun e w'' => e = .returned (.bool (p c)) ∧ Below w'.heap.size w' w'') :
    Calls Tryd.prog 78 #[v, .func (.func 50) #[] #[.pointer (some ⟨bf, 0, none⟩)]] w fun e w' => e = .returned (.int .i64 (if m = zs.length then -1 else (m : Int))) ∧ Below w.heap.size w w' := by
  have HA := Lib.hid h
  have HL := Lib.hid hL
  have H1 := Lib.hid h1
  have H2 := Lib.hid h2
  obtain ⟨A, c, ev⟩ := SlM.form h
  subst ev
  have hcap := (SlM.caps h).2
  unfold maxLen at hcap
  clear h h1 h2 hL
  generalize hnl : zs.length = n at *
  have HN := Lib.hid hnl
  clear hnl
  obtain ⟨r, hr⟩ : ∃ r : Int, (if m = n then -1 else (m : Int)) = r := ⟨_, rfl⟩
  rw [hr]
  have HR1 : Hid (m = n → r = -1) := fun e => by rw [← hr, if_pos e]
  have HR2 : Hid (m < n → r = (m : Int)) := fun e => by rw [← hr, if_neg (by omega)]
  clear hr
  go_enter Tryd.func78, Tryd.ntmps78
  go_wp2
  go_loopw [5, 8] (fun _ v8 wr => ∃ i : Nat, v8 = .int .i64 (i : Int) ∧ i ≤ m ∧ Below w.heap.size w wr) (fun _ v8 _ => n - (intOf v8).toNat)
  case atStart => exact ⟨0, rfl, by omega, Below.refl _ _⟩
  case round =>
    obtain ⟨i, rfl, hi, hb⟩ := hrel
    by_cases hin : i < n
    · obtain ⟨b, off, ev, _, hblt, hcell⟩ := SlM.addr (SlM.later HA.out hb) (by omega)
      subst ev
      have d0 := hcell i _ (ints_get (by rw [HN.out]; exact hin))
      have HLi := Lib.hid (HL.out (zs.getD i 0))
      have HB := Lib.hid hb
      by_cases him : i < m
      · have ht := H1.out i him
        generalize zs.getD i 0 = z at *
        have HT := Lib.hid ht
        clear ht hcell hb
        go_wp2_with fail
        refine (HLi.out _ HB.out).mono ?_; rintro e w1 ⟨rfl, hb1⟩
        rw [HT.out]
        have HB1 := Lib.hid (HB.out.trans (hb1.mono HB.out.size))
        clear hb1
        go_wp2
        go_roundw
        case rel => exact ⟨i + 1, by go_num, by omega, HB1.out⟩
        case measure => simp [intOf]; omega
      · obtain rfl : i = m := by omega
        have ht := H2.out hin
        have hr := HR2.out hin
        subst hr
        generalize zs.getD i 0 = z at *
        have HT := Lib.hid ht
        clear ht hcell hb
        go_wp2_with fail
        refine (HLi.out _ HB.out).mono ?_; rintro e w1 ⟨rfl, hb1⟩
        rw [HT.out]
        have HB1 := Lib.hid (HB.out.trans (hb1.mono HB.out.size))
        clear hb1
        go_wp2
        go_ret
        exact ⟨rfl, HB1.out⟩
    · obtain rfl : i = n := by omega
      have HB := Lib.hid hb
      have hr := HR1.out (by omega)
      subst hr
      clear hb
      go_wp2
      go_ret
      exact ⟨rfl, HB.out⟩
theorem first_any (p : Int → Bool) : ∀ zs : List Int, ∃ m, m ≤ zs.length ∧ (∀ i, i < m → p (zs.getD i 0) = false) ∧ (m < zs.length → p (zs.getD m 0) = true)
  | [] => ⟨0, Nat.le_refl _, fun i h => absurd h (by omega), fun h => absurd h (by simp)⟩
  | z :: r => by
    by_cases h : p z = true
    · exact ⟨0, Nat.zero_le _, fun i h => absurd h (by omega), fun _ => h⟩
    · obtain ⟨m, a, b, c⟩ := first_any p r
      refine ⟨m + 1, by simp; omega, fun i hi => ?_, fun hm => c (by simp at hm; omega)⟩
      cases i with
      | zero => simpa using h
      | succ i => exact b i (by omega)
def fil (p : Int → Bool) (zs : List Int) (j : Nat) : List Int := (zs.take j).filter fun c => !p c
theorem fil_succ (p : Int → Bool) (zs : List Int) (j : Nat) (h : j < zs.length) : fil p zs (j + 1) = fil p zs j ++ if p (zs.getD j 0) then [] else [zs.getD j 0] := by
  unfold fil
  rw [Fnt.take_next zs j 0 h, List.filter_append]
  congr 1
  simp only [List.filter_cons, List.filter_nil]
  cases p (zs.getD j 0) <;> rfl
theorem fil_first (p : Int → Bool) (zs : List Int) (m : Nat) (hm : m ≤ zs.length) (h : ∀ i, i < m → p (zs.getD i 0) = false) : fil p zs m = zs.take m := by
  unfold fil
  refine List.filter_eq_self.2 fun c hc => ?_
  obtain ⟨i, hi, rfl⟩ := List.getElem_of_mem hc
  have hi' : i < m := by simp at hi; omega
  have := h i hi'
  rw [List.getD_eq_getElem?_getD, List.getElem?_eq_getElem (by omega)] at this
  simp at this
  simp [this]
theorem fil_set (A zs : List Int) (i : Nat) (x : Int) (hA : A.length = i) (h : i < zs.length) : (ints (A ++ zs.drop i)).set i (.int .i64 x) = ints (A ++ [x] ++ zs.drop (i + 1)) := by
  subst hA
  show ((A ++ zs.drop A.length).map fun z => Value.int .i64 z).set A.length ((fun z => Value.int .i64 z) x) = _
  rw [← List.map_set, List.set_append_right _ _ (Nat.le_refl _), Nat.sub_self, List.drop_eq_getElem_cons h, List.set_cons_zero, List.append_assoc]
  rfl
theorem fil_get (A zs : List Int) (i j : Nat) (hA : A.length = i) (hij : i ≤ j) (h : j < zs.length) : (ints (A ++ zs.drop i))[j]? = some (.int .i64 (zs.getD j 0)) := by
  unfold ints
  rw [List.getElem?_map, List.getElem?_append_right (by omega), List.getElem?_drop, hA, show i + (j - i) = j by omega, List.getElem?_eq_getElem h, List.getD_eq_getElem?_getD, List.getElem?_eq_getElem h]
  rfl
theorem own_free {w : World} {base g n cap : Nat} {e : TypeId} {size : Nat} {xs : List Value} (h : w.ownsRow base e size (.slice (some ⟨g, 0, none⟩) n cap) n xs) (i : Nat) : w.frozen? ⟨g, i, none⟩ = false := by
  rcases h.2 with ⟨h, _⟩ | ⟨g', cap', cur, hv, hb, hh, _⟩
  · cases h
  · injection hv with e1
    injection e1 with e1
    injection e1 with e1
    subst e1
    simp [World.frozen?, hh]
theorem FrX.grown {g : Nat} {w w' : World} (h : FrX w.heap.size g w w') : w.grownBy w' (some g) := ⟨h.os, h.tape, h.output, h.size, fun k hk hne => h.block k hk fun e => hne (by rw [e])⟩
set_option maxRecDepth 100000 in
set_option maxHeartbeats 4000000 in
/-- DeleteFunc at a row of the call's own, for the closure that computes p. -/
theorem delete_int (base : Nat) (v : Value) (bf : Nat) (p : Int → Bool) (zs : List Int) (w : World) (h : w.ownsRow base 3 1 v zs.length (ints zs)) (hn : zs.length ≤ 100000)
    (hL : ∀ c w', w.grownBy w' v.ownBlock → Calls Tryd.prog 50 #[.int .i64 c, .pointer (some ⟨bf, 0, none⟩)] w' fun e w'' => e = .returned (.bool (p c)) ∧ Below w'.heap.size w' w'') :
    Calls Tryd.prog 48 #[v, .func (.func 50) #[] #[.pointer (some ⟨bf, 0, none⟩)]] w fun e w' =>
      ∃ v', e = .returned v' ∧ v'.ownBlock = v.ownBlock ∧ w'.ownsRow base 3 1 v' (zs.filter fun c => !p c).length (ints (zs.filter fun c => !p c)) ∧ w.grownBy w' v.ownBlock := by
  obtain ⟨m, hm, h1, h2⟩ := first_any p zs
  have hsl := SlM.of_own h
  have hgb : ∀ w', Below w.heap.size w w' → w.grownBy w' v.ownBlock := fun w' hb => ⟨hb.os, hb.tape, hb.output, hb.size, fun k hk _ => hb.block k hk⟩
  have HI := Lib.hid (index_int v bf p zs m _ w hsl hn hm h1 h2 fun c w' hb => hL c w' (hgb w' hb))
  have hfil : fil p zs zs.length = zs.filter fun c => !p c := by unfold fil; rw [List.take_of_length_le (Nat.le_refl _)]
  by_cases hme : m = zs.length
  · have hi := HI.out
    rw [if_pos hme] at hi
    have HI2 := Lib.hid hi
    have e : (zs.filter fun c => !p c) = zs := by rw [← hfil, fil_first p zs _ (Nat.le_refl _) (by rw [← hme]; exact h1), List.take_of_length_le (Nat.le_refl _)]
    rw [e]
    have HO := Lib.hid h
    have HG := Lib.hid hgb
    obtain ⟨A, c, ev⟩ := SlM.form hsl
    subst ev
    clear h hL hsl hgb HI hi h1 h2 hfil hme e hm
    generalize zs.length = n at *
    go_enter Tryd.func48, Tryd.ntmps48
    go_wp2_with fail
    refine HI2.out.mono ?_; rintro e w1 ⟨rfl, hb1⟩
    have HB1 := Lib.hid hb1
    clear hb1
    go_wp2
    go_ret
    exact ⟨_, rfl, rfl, own_below HO.out HB1.out, HG.out _ HB1.out⟩
  · obtain ⟨g, c, ev⟩ : ∃ g c, v = .slice (some ⟨g, 0, none⟩) zs.length c := by
      obtain ⟨_, hx⟩ := h
      rcases hx with ⟨_, hx⟩ | ⟨g, cap, cur, hv, _⟩
      · omega
      · exact ⟨g, cap, hv⟩
    subst ev
    have hi := HI.out
    rw [if_neg hme] at hi
    have HI2 := Lib.hid hi
    have hcap := (SlM.caps hsl).2
    unfold maxLen at hcap
    obtain ⟨hcap1, hcap2⟩ := hcap
    have hgl := (own_lt h g rfl).2
    have HL : Hid (∀ c w', FrX w.heap.size g w w' → Calls Tryd.prog 50 #[.int .i64 c, .pointer (some ⟨bf, 0, none⟩)] w' fun e w'' => e = .returned (.bool (p c)) ∧ Below w'.heap.size w' w'') := fun c w' hf => hL c w' hf.grown
    have hmn : m < zs.length := by omega
    have HS := Lib.hid (fil_succ p zs)
    have HF1 : Hid (fil p zs (m + 1) = zs.take m) := by
      unfold Hid; rw [fil_succ p zs m hmn, fil_first p zs m hm h1, h2 hmn]; simp
    have HO := Lib.hid h
    have HFl := Lib.hid hfil
    clear h hL hsl hgb HI hi h1 h2 hfil hme hm
    generalize hnl : zs.length = n at *
    have HN := Lib.hid hnl
    clear hnl
    go_enter Tryd.func48, Tryd.ntmps48
    go_wp2_with fail
    refine HI2.out.mono ?_; rintro e w1 ⟨rfl, hb1⟩
    have HB1 := Lib.hid hb1
    clear hb1
    go_wp2
    go_loopw [5, 6] (fun v5 v6 wr => True ∧ ∃ i j : Nat, v5 = .int .i64 (i : Int) ∧ v6 = .int .i64 (j : Int) ∧ i + 1 ≤ j ∧ j ≤ n ∧ (fil p zs j).length = i ∧ wr.ownsRow base 3 1 (.slice (some ⟨g, 0, none⟩) n c) n (ints (fil p zs j ++ zs.drop i)) ∧ FrX w.heap.size g w wr) (fun _ v6 _ => n - (intOf v6).toNat)
    case atStart => exact ⟨trivial, m, m + 1, rfl, by go_num, by omega, by omega, by rw [HF1.out, List.length_take, HN.out]; omega, by rw [HF1.out, List.take_append_drop]; exact own_below HO.out HB1.out, FrX.of_below HB1.out (Nat.le_refl _)⟩
    case round =>
      obtain ⟨_, i, j, rfl, rfl, hij, hjn, hfl, ho, hf⟩ := hrel
      have HOr := Lib.hid ho
      have HFr := Lib.hid hf
      have HFi := Lib.hid hfl
      clear ho hf hfl
      by_cases hlt : j < n
      · have d0 := HOr.out.cells (g := g) rfl j _ (fil_get _ zs i j HFi.out (by omega) (by rw [HN.out]; exact hlt))
        rw [add_plain, Nat.zero_add] at d0
        have hgr : g < wr.heap.size := (own_lt HOr.out g rfl).2
        have HSj := Lib.hid (HS.out j hlt)
        have HLi := Lib.hid (HL.out (zs.getD j 0))
        generalize zs.getD j 0 = z at *
        by_cases hz : p z = true
        · rw [hz] at HLi
          rw [if_pos hz, List.append_nil] at HSj
          have HZ := Lib.hid hz
          clear hz
          go_wp2_with fail
          refine (HLi.out _ HFr.out).mono ?_; rintro e w2 ⟨rfl, hb2⟩
          have HO2 := Lib.hid (own_below HOr.out hb2)
          have HF2 := Lib.hid (HFr.out.trans (FrX.of_below hb2 HFr.out.size))
          clear hb2
          go_wp2
          go_roundw
          case rel => (repeat apply Exists.intro); exact ⟨⟨trivial, i, j + 1, rfl, by go_num, by omega, by omega, by rw [HSj.out]; exact HFi.out, by rw [HSj.out]; exact HO2.out, HF2.out⟩, rfl⟩
          case measure => simp [intOf]; omega
        · have hz2 : p z = false := by simpa using hz
          rw [hz2] at HLi
          rw [if_neg hz] at HSj
          have HZ := Lib.hid hz2
          clear hz hz2
          go_wp2_with fail
          refine (HLi.out _ HFr.out).mono ?_; rintro e w2 ⟨rfl, hb2⟩
          have HO2 := Lib.hid (own_below HOr.out hb2)
          have HF2 := Lib.hid (HFr.out.trans (FrX.of_below hb2 HFr.out.size))
          clear hb2 d0
          have HO3 := Lib.hid (own_put (k := i) HO2.out (.int .i64 z))
          rw [fil_set _ zs i z HFi.out (by rw [HN.out]; omega)] at HO3
          have HF3 := Lib.hid (HF2.out.put i (.int .i64 z))
          have c0 := HO2.out.cells (g := g) rfl i _ (fil_get _ zs i i HFi.out (Nat.le_refl _) (by rw [HN.out]; omega))
          rw [add_plain, Nat.zero_add] at c0
          have f0 := own_free HO2.out i
          have hg2 : g < w2.heap.size := (own_lt HO2.out g rfl).2
          go_wp2
          go_roundw
          case rel => (repeat apply Exists.intro); exact ⟨⟨trivial, i + 1, j + 1, by go_num, by go_num, by omega, by omega, by rw [HSj.out, List.length_append, HFi.out]; rfl, by rw [HSj.out]; exact HO3.out, HF3.out⟩, rfl⟩
          case measure => simp [intOf]; omega
      · obtain rfl : j = n := by omega
        have hz : ∀ k, ∀ u ∈ (Builtin.zeroCells (Value.int .i64 0).cells k).toList, u.oneCell' = true := fun k u hu => by
          simp only [Builtin.zeroCells, Array.toList_map, List.mem_map] at hu
          obtain ⟨i, _, rfl⟩ := hu
          show (#[Value.int .i64 0][i % 1]!).oneCell' = true
          rw [Nat.mod_one]; rfl
        obtain ⟨w3, hrun, ho3, hg3⟩ := run_clear_own eInt (fun w => by kernel_rfl) (hz 1) hz HOr.out (k := i) (by omega)
        rw [Nat.mul_one] at hrun ho3
        have HO3 := Lib.hid ho3
        have HG3 := Lib.hid hg3
        clear ho3 hg3 hz
        go_wp2
        go_ret
        refine ⟨_, rfl, rfl, ?_, (HFr.out.trans (FrX.mono (R := wr.heap.size) (R' := w.heap.size) ⟨HG3.out.os, HG3.out.tape, HG3.out.output, HG3.out.size, fun k hk hne => HG3.out.block k hk fun e => hne (by injection e)⟩ HFr.out.size)).grown⟩
        rw [← HFl.out, HFi.out]
        have h := HO3.out
        unfold ints at h
        rw [← List.map_take, List.take_left' HFi.out] at h
        exact h
end Go.Proofs.YtefkglmdkjkbiaaDoor
