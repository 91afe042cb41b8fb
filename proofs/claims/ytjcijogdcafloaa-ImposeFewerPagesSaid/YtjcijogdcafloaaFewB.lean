/- The walks of slices.IndexFunc and slices.DeleteFunc at places, the late ones behind. -/
import Derived.Test.YtjcijogdcafloaaFewA
namespace Go.Proofs.Ytjcijogdcafloaa
open Go.RowKit
/-- The builtin clear at the end of a row of the call's own. -/
theorem run_clear_own {P : Program} {w : World} {t e : TypeId} {z : Value} {size bytes : Nat} (T : ElemK P t e z size bytes) (hzr : ∀ w, (zeroValue e).run P w = .ok z w) (hz1 : ∀ v ∈ (Builtin.zeroCells z.cells (1 : Nat)).toList, v.oneCell' = true) (hzn : ∀ m, ∀ v ∈ (Builtin.zeroCells z.cells m).toList, v.oneCell' = true)
    {base g n cap : Nat} {xs : List Value} (hown : w.ownsRow base e size (.slice (some ⟨g, 0, none⟩) n cap) n xs) {k : Nat} (hk : k < n) :
    ∃ w', (∀ ty c, (Builtin.clear_ #[t] ty #[.slice (some ⟨g, k * size, none⟩) (n - k) c]).run P w = .ok (.tuple #[]) w') ∧ w'.ownsRow base e size (.slice (some ⟨g, 0, none⟩) k cap) k (xs.take (k * size)) ∧ w.grownBy w' (some g) := by
  have _ := hz1
  obtain ⟨hxl, hxs⟩ := hown
  rcases hxs with ⟨hv, _⟩ | ⟨g', cap', cur, hv, hb, hg, hnc, hcm, hcs, hx⟩
  · cases hv
  · injection hv with e1 _ e2
    injection e1 with e1
    injection e1 with e1
    subst e1; subst e2
    have hzl : (Builtin.zeroCells z.cells (n - k)).toList.length = (n - k) * size := by
      simp [Builtin.zeroCells, T.hz]
    have hle : k * size + (n - k) * size = n * size := by rw [← Nat.add_mul]; congr 1; omega
    have hle2 : n * size ≤ cap * size := Nat.mul_le_mul_right _ hnc
    have hst := run_storeCells_at P g (k * size) e (Builtin.zeroCells z.cells (n - k)).toList 0 cur w hg (by rw [hzl, hcs]; omega) (hzn _)
    generalize hzs : (Builtin.zeroCells z.cells (n - k)).toList = zs at *
    refine ⟨w.setRow g (cur.toList.take (k * size + 0) ++ zs ++ cur.toList.drop (k * size + 0 + zs.length)).toArray, fun ty c => ?_, ⟨?_, .inr ⟨g, cap, (cur.toList.take (k * size + 0) ++ zs ++ cur.toList.drop (k * size + 0 + zs.length)).toArray, rfl, hb, setRow_heap w g _ _ e _ hg, by omega, hcm, ?_, ?_⟩⟩, ⟨rfl, rfl, rfl, by simp [World.setRow], fun j hj hne => setRow_other w g j _ (fun e => hne (by rw [e]))⟩⟩
    · obtain ⟨m, hm⟩ : ∃ m, n - k = m + 1 := ⟨n - k - 1, by omega⟩
      rw [hm] at hzs ⊢
      simp [Builtin.clear_, run_underlying T.ht, hzr, hzs, hst]
    · rw [List.length_take, hxl]; omega
    · have hcl : cur.toList.length = cap * size := by simpa using hcs
      simp only [List.size_toArray, List.length_append, List.length_take, List.length_drop, hzl, Nat.add_zero]
      omega
    · have hcl : cur.toList.length = cap * size := by simpa using hcs
      rw [← hx, List.take_take, Nat.min_eq_left (by omega)]
      simp only [Nat.add_zero]
      rw [List.append_assoc, List.take_append_of_le_length (by rw [List.length_take]; omega), List.take_take, Nat.min_eq_left (Nat.le_refl _)]
theorem index_any (v : Value) (l1 l2 : List Pla) (ok : Nat → Prop) (B : Nat) (many : Int) (w : World) (h : PlV w ok v (l1 ++ l2)) (hc : w.cell? ⟨B, 0, none⟩ = some (.int .i64 many)) (hB : B < w.heap.size) (h1 : ∀ p ∈ l1, p.page ≤ many) (h2 : ∀ p ∈ l2, many < p.page) (hn : (l1 ++ l2).length ≤ 100000) :
    Calls Try.prog 44 #[v, .func (.func 21) #[] #[.pointer (some ⟨B, 0, none⟩)]] w fun e w' => e = .returned (.int .i64 (if l2 = [] then -1 else (l1.length : Int))) ∧ Below w.heap.size w w' := by
  have HA := Lib.hid h
  have HC := Lib.hid hc
  obtain ⟨A, c, ev⟩ := PlV.form h
  subst ev
  have hcap := (SlM.caps h).2
  unfold maxLen at hcap
  clear h hc
  have HL : Hid (∀ (p : Pla) (w' : World), Below w.heap.size w w' → Calls Try.prog 21 #[.agg #[.int .i64 p.page, .int .i64 p.x, .int .i64 p.y, .int .i64 p.turn], .pointer (some ⟨B, 0, none⟩)] w' fun e w'' => e = .returned (.bool (decide (many < p.page))) ∧ Below w'.heap.size w' w'') := fun p w' hb => late_any p B many w' ((hb.cell (p := ⟨B, 0, none⟩) hB).trans HC.out) (Nat.lt_of_lt_of_le hB hb.size)
  have H1 : Hid (∀ i, i < l1.length → decide (many < (plN (l1 ++ l2) i).page) = false) := fun i hi => decide_eq_false (by
    have hm := plN_get (l1 ++ l2) (i := i) (by rw [List.length_append]; omega)
    rw [List.getElem?_append_left hi] at hm
    have := h1 _ (List.mem_of_getElem? hm); omega)
  have H2 : Hid (∀ i, l1.length ≤ i → i < (l1 ++ l2).length → decide (many < (plN (l1 ++ l2) i).page) = true) := fun i hi hl => decide_eq_true (by
    have hm := plN_get (l1 ++ l2) (i := i) hl
    rw [List.getElem?_append_right hi] at hm
    exact h2 _ (List.mem_of_getElem? hm))
  have HE : Hid (l2 = [] ↔ (l1 ++ l2).length = l1.length) := by
    show _ ↔ _
    rw [List.length_append]
    exact ⟨fun e => by rw [e]; rfl, fun e => List.eq_nil_of_length_eq_zero (by omega)⟩
  have hln : l1.length ≤ (l1 ++ l2).length := by rw [List.length_append]; omega
  generalize hl : l1 ++ l2 = l at *
  generalize l1.length = m at *
  generalize hnl : l.length = n at *
  have HN := Lib.hid hnl
  clear hl hnl h1 h2
  go_enter Try.func44, Try.ntmps44
  go_wp2
  go_loopw [5, 8] (fun _ v8 wr => ∃ i : Nat, v8 = .int .i64 (i : Int) ∧ i ≤ m ∧ Below w.heap.size w wr) (fun _ v8 _ => n - (intOf v8).toNat)
  case atStart => exact ⟨0, rfl, by omega, Below.refl _ _⟩
  case round =>
    obtain ⟨i, rfl, hi, hb⟩ := hrel
    by_cases hin : i < n
    · obtain ⟨b, off, cap, ev, _, hblt, _, _, hcell⟩ := PlV.cells (SlM.later HA.out hb) (by rw [HN.out]; omega)
      injection ev with e1 e2 e3
      subst e1
      obtain ⟨d0, d1, d2, d3⟩ := hcell i (by rw [HN.out]; exact hin)
      have HLi := Lib.hid (HL.out (plN l i))
      have HB := Lib.hid hb
      by_cases him : i < m
      · have ht := H1.out i him
        generalize plN l i = p at *
        obtain ⟨pp, px, py, pt⟩ := p
        dsimp only at d0 d1 d2 d3 ht HLi
        have HT := Lib.hid ht
        clear ht hcell hb e2 e3
        go_wp2_with fail
        refine (HLi.out _ HB.out).mono ?_; rintro e w1 ⟨rfl, hb1⟩
        rw [HT.out]
        have HB1 := Lib.hid (HB.out.trans (hb1.mono HB.out.size))
        clear hb1
        go_wp2
        go_roundw
        case rel => exact ⟨i + 1, by go_num, by omega, HB1.out⟩
        case measure => simp [intOf]; omega
      · have ht := H2.out i (by omega) hin
        obtain rfl : i = m := by omega
        have hne : ¬ l2 = [] := fun e => by have := HE.out.1 e; omega
        have HNe := Lib.hid hne
        generalize plN l i = p at *
        obtain ⟨pp, px, py, pt⟩ := p
        dsimp only at d0 d1 d2 d3 ht HLi
        have HT := Lib.hid ht
        clear ht hcell hb e2 e3 hne
        go_wp2_with fail
        refine (HLi.out _ HB.out).mono ?_; rintro e w1 ⟨rfl, hb1⟩
        rw [HT.out]
        have HB1 := Lib.hid (HB.out.trans (hb1.mono HB.out.size))
        clear hb1
        go_wp2
        go_ret
        exact ⟨rfl, HB1.out⟩
    · obtain rfl : i = n := by omega
      have hem : l2 = [] := HE.out.2 (by omega)
      have HEm := Lib.hid hem
      have HB := Lib.hid hb
      clear hem hb
      go_wp2
      go_ret
      exact ⟨rfl, HB.out⟩
set_option maxRecDepth 100000 in
set_option maxHeartbeats 4000000 in
/-- DeleteFunc at a row of the call's own: the late places stand at its end. -/
theorem delete_any (v : Value) (l1 l2 : List Pla) (base B : Nat) (many : Int) (w0 w : World) (h : w.ownsRow base 36 4 v (l1 ++ l2).length (plcells (l1 ++ l2))) (hb : Below base w0 w) (hbase : base ≤ w.heap.size) (hc : w.cell? ⟨B, 0, none⟩ = some (.int .i64 many)) (hB : B < base) (h1 : ∀ p ∈ l1, p.page ≤ many) (h2 : ∀ p ∈ l2, many < p.page) (hn : (l1 ++ l2).length ≤ 100000) :
    Calls Try.prog 24 #[v, .func (.func 21) #[] #[.pointer (some ⟨B, 0, none⟩)]] w fun e w' => ∃ v', e = .returned v' ∧ PlV w' (fun _ => True) v' l1 ∧ Below base w0 w' := by
  have hpl : PlV w (fun b => some b = v.ownBlock ∧ base ≤ b) v (l1 ++ l2) := SlM.of_own h
  have HI := Lib.hid (index_any v l1 l2 _ B many w hpl hc (by omega) h1 h2 hn)
  have HO := Lib.hid h
  have HB := Lib.hid hb
  have HC := Lib.hid hc
  by_cases hl2 : l2 = []
  · subst hl2
    have hi := HI.out
    rw [List.append_nil] at hpl
    rw [if_pos rfl] at hi
    have HP : Hid (PlV _ _ _ _) := Lib.hid hpl
    have HI2 := Lib.hid hi
    obtain ⟨A, c, ev⟩ := PlV.form hpl
    clear h hb hc hpl h1 h2 hi HI HO hn
    subst ev
    generalize l1.length = n at *
    go_enter Try.func24, Try.ntmps24
    go_wp2_with fail
    refine HI2.out.mono ?_; rintro e w1 ⟨rfl, hb1⟩
    have HB1 := Lib.hid hb1
    clear hb1
    go_wp2
    go_ret
    exact ⟨_, rfl, (SlM.later HP.out HB1.out).mono fun _ _ _ => trivial, HB.out.trans (HB1.out.mono hbase)⟩
  · obtain ⟨g, c, ev⟩ : ∃ g c, v = .slice (some ⟨g, 0, none⟩) (l1 ++ l2).length c := by
      obtain ⟨_, hx⟩ := h
      rcases hx with ⟨_, hx⟩ | ⟨g, cap, cur, hv, _⟩
      · exfalso
        rw [List.length_append] at hx
        exact hl2 (List.eq_nil_of_length_eq_zero (by omega))
      · exact ⟨g, cap, hv⟩
    subst ev
    have hcap := (SlM.caps hpl).2
    unfold maxLen at hcap
    obtain ⟨hcap1, hcap2⟩ := hcap
    have HP : Hid (PlV w _ _ _) := Lib.hid hpl
    have hk : l1.length < (l1 ++ l2).length := by
      rw [List.length_append]
      have : 0 < l2.length := by cases l2; exact absurd rfl hl2; simp
      omega
    have H2 : Hid (∀ i, l1.length ≤ i → i < (l1 ++ l2).length → decide (many < (plN (l1 ++ l2) i).page) = true) := fun i hi hl => decide_eq_true (by
      have hm := plN_get (l1 ++ l2) (i := i) hl
      rw [List.getElem?_append_right hi] at hm
      exact h2 _ (List.mem_of_getElem? hm))
    have HT : Hid (∀ u, u = (l1 ++ l2).length → ((plcells (l1 ++ l2)).take (l1.length * 4)) = plcells l1) := fun u _ => by
      unfold plcells
      rw [List.flatMap_append, List.take_left' (by exact plcells_length l1)]
    have HL : Hid (∀ (p : Pla) (w' : World), Below w.heap.size w w' → Calls Try.prog 21 #[.agg #[.int .i64 p.page, .int .i64 p.x, .int .i64 p.y, .int .i64 p.turn], .pointer (some ⟨B, 0, none⟩)] w' fun e w'' => e = .returned (.bool (decide (many < p.page))) ∧ Below w'.heap.size w' w'') := fun p w' hb => late_any p B many w' ((hb.cell (p := ⟨B, 0, none⟩) (by show B < _; omega)).trans HC.out) (Nat.lt_of_lt_of_le (by omega) hb.size)
    have HNe := Lib.hid hl2
    clear h hb hc hpl h1 h2 hl2
    generalize hl : l1 ++ l2 = l at *
    generalize hm : l1.length = m at *
    generalize hnl : l.length = n at *
    have HN := Lib.hid hnl
    have HM := Lib.hid hm
    clear hl hnl hm
    go_enter Try.func24, Try.ntmps24
    go_wp2_with fail
    refine HI.out.mono ?_; rintro e w1 ⟨rfl, hb1⟩
    rw [if_neg HNe.out]
    have HB1 := Lib.hid hb1
    clear hb1
    go_wp2
    go_loopw [5, 6] (fun v5 v6 wr => v5 = .int .i64 (m : Int) ∧ ∃ j : Nat, v6 = .int .i64 (j : Int) ∧ m + 1 ≤ j ∧ j ≤ n ∧ Below w.heap.size w wr) (fun _ v6 _ => n - (intOf v6).toNat)
    case atStart => exact ⟨rfl, m + 1, by go_num, by omega, by omega, HB1.out⟩
    case round =>
      obtain ⟨rfl, j, rfl, hj1, hj2, hb⟩ := hrel
      by_cases hjn : j < n
      · obtain ⟨b, off, cap, ev, _, hblt, _, _, hcell⟩ := PlV.cells (SlM.later HP.out hb) (by rw [HN.out]; omega)
        injection ev with e1 e2 e3
        injection e1 with e1
        injection e1 with e1 e1'
        subst e1 e1'
        obtain ⟨d0, d1, d2, d3⟩ := hcell j (by rw [HN.out]; exact hjn)
        rw [Nat.zero_add] at d0 d1 d2 d3
        have HLi := Lib.hid (HL.out (plN l j))
        have HBr := Lib.hid hb
        have ht := H2.out j (by omega) hjn
        generalize plN l j = p at *
        obtain ⟨pp, px, py, pt⟩ := p
        dsimp only at d0 d1 d2 d3 ht HLi
        have HTt := Lib.hid ht
        clear ht hcell hb e2 e3
        have hba := HBr.out.alloc HBr.out.size (Obj.cells #[.int .i64 pp, .int .i64 px, .int .i64 py, .int .i64 pt] 36)
        have HBa := Lib.hid hba
        clear hba
        go_wp2_with fail
        refine (HLi.out _ HBa.out).mono ?_; rintro e w2 ⟨rfl, hb2⟩
        rw [HTt.out]
        have HB2 := Lib.hid (HBa.out.trans (hb2.mono HBa.out.size))
        clear hb2
        go_wp2
        go_roundw
        case rel => (repeat apply Exists.intro); exact ⟨⟨rfl, j + 1, by go_num, by omega, by omega, HB2.out⟩, rfl⟩
        case measure => simp [intOf]; omega
      · obtain rfl : j = n := by omega
        have ho := own_below HO.out hb
        have hz : ∀ k, ∀ u ∈ (Builtin.zeroCells (Value.agg #[.int .i64 0, .int .i64 0, .int .i64 0, .int .i64 0]).cells k).toList, u.oneCell' = true := fun k u hu => by
          simp only [Builtin.zeroCells, Array.toList_map, List.mem_map] at hu
          obtain ⟨i, _, rfl⟩ := hu
          have hi4 : i % 4 = 0 ∨ i % 4 = 1 ∨ i % 4 = 2 ∨ i % 4 = 3 := by omega
          show (#[Value.int .i64 0, .int .i64 0, .int .i64 0, .int .i64 0][i % 4]!).oneCell' = true
          rcases hi4 with e | e | e | e <;> rw [e] <;> rfl
        obtain ⟨w3, hrun, ho3, hg3⟩ := run_clear_own ePla (fun w => by kernel_rfl) (hz 1) hz ho hj1
        have HO3 := Lib.hid ho3
        have HB3 := Lib.hid hb
        have HG3 := Lib.hid hg3
        clear ho3 hb hg3 hz ho
        go_wp2
        go_ret
        refine ⟨_, rfl, ?_, ?_⟩
        · have h := (SlM.of_own HO3.out).mono (ok' := fun _ => True) fun _ _ _ => trivial
          rw [HT.out j rfl] at h
          unfold PlV; rw [HM.out]; exact h
        · exact (HB.out.trans (HB3.out.mono hbase)).grown HG3.out (Nat.le_trans hbase HB3.out.size) fun k hk => by
            have := (own_lt HO.out k hk).1; exact this
end Go.Proofs.Ytjcijogdcafloaa
