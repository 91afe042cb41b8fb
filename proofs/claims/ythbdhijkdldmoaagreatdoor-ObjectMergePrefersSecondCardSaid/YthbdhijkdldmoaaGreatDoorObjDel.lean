/- slices.Delete of one element, at rows of the call's own: strings and objects. -/
import Derived.Test.YthbdhijkdldmoaaGreatDoorObjInsO
import Derived.Test.YthbdhijkdldmoaaGreatDoorObjList
import Derived.Test.YthbdhijkdldmoaaGreatDoorObjEdL
import Derived.Deep.RegionLaw
namespace Go.Proofs.YthbdhijkdldmoaaGreatDoor
open Go.RowKit
/-- The builtin clear at the end of a row of the call's own. -/
theorem run_clear_own {P : Program} {w : World} {t e : TypeId} {z : Value} {size bytes : Nat} (T : ElemK P t e z size bytes) (hzr : ∀ w, (zeroValue e).run P w = .ok z w) (hzn : ∀ m, ∀ v ∈ (Builtin.zeroCells z.cells m).toList, v.oneCell' = true)
    {base g n cap : Nat} {xs : List Value} (hown : w.ownsRow base e size (.slice (some ⟨g, 0, none⟩) n cap) n xs) {k : Nat} (hk : k < n) :
    ∃ w', (∀ ty c, (Builtin.clear_ #[t] ty #[.slice (some ⟨g, k * size, none⟩) (n - k) c]).run P w = .ok (.tuple #[]) w') ∧ w'.ownsRow base e size (.slice (some ⟨g, 0, none⟩) k cap) k (xs.take (k * size)) ∧ w.grownBy w' (some g) := by
  obtain ⟨hxl, hxs⟩ := hown
  rcases hxs with ⟨hv, _⟩ | ⟨g', cap', cur, hv, hb, hg, hnc, hcm, hcs, hx⟩
  · cases hv
  · injection hv with e1 _ e2
    injection e1 with e1
    injection e1 with e1
    subst e1; subst e2
    have hzl : (Builtin.zeroCells z.cells (n - k)).toList.length = (n - k) * size := by
      simp [Builtin.zeroCells, T.hz]
    have hle : k * size + (n - k) * size = n * size := by rw [← Nat.add_mul]; congr 1; omega
    have hle2 : n * size ≤ cap * size := Nat.mul_le_mul_right _ hnc
    have hst := run_storeCells_at P g (k * size) e (Builtin.zeroCells z.cells (n - k)).toList 0 cur w hg (by rw [hzl, hcs]; omega) (hzn _)
    generalize hzs : (Builtin.zeroCells z.cells (n - k)).toList = zs at *
    refine ⟨w.setRow g (cur.toList.take (k * size + 0) ++ zs ++ cur.toList.drop (k * size + 0 + zs.length)).toArray, fun ty c => ?_, ⟨?_, .inr ⟨g, cap, (cur.toList.take (k * size + 0) ++ zs ++ cur.toList.drop (k * size + 0 + zs.length)).toArray, rfl, hb, setRow_heap w g _ _ e _ hg, by omega, hcm, ?_, ?_⟩⟩, ⟨rfl, rfl, rfl, by simp [World.setRow], fun j hj hne => setRow_other w g j _ (fun e => hne (by rw [e]))⟩⟩
    · obtain ⟨m, hm⟩ : ∃ m, n - k = m + 1 := ⟨n - k - 1, by omega⟩
      rw [hm] at hzs ⊢
      simp [Builtin.clear_, run_underlying T.ht, hzr, hzs, hst]
    · rw [List.length_take, hxl]; omega
    · have hcl : cur.toList.length = cap * size := by simpa using hcs
      simp only [List.size_toArray, List.length_append, List.length_take, List.length_drop, hzl, Nat.add_zero]
      omega
    · have hcl : cur.toList.length = cap * size := by simpa using hcs
      rw [← hx, List.take_take, Nat.min_eq_left (by omega)]
      simp only [Nat.add_zero]
      rw [List.append_assoc, List.take_append_of_le_length (by rw [List.length_take]; omega), List.take_take, Nat.min_eq_left (Nat.le_refl _)]
/-- Some cells of a row of the call's own written. -/
theorem own_setCells {base g n cap size : Nat} {e : TypeId} : ∀ (vs : List Value) (o : Nat) (w : World) (xs : List Value), w.ownsRow base e size (.slice (some ⟨g, 0, none⟩) n cap) n xs → o + vs.length ≤ xs.length →
    (w.setCells g o vs).ownsRow base e size (.slice (some ⟨g, 0, none⟩) n cap) n (xs.take o ++ vs ++ xs.drop (o + vs.length))
  | [], o, w, xs, h, _ => by simpa [World.setCells] using h
  | v :: r, o, w, xs, h, ho => by
    simp only [List.length_cons] at ho
    have := own_setCells r (o + 1) _ _ (own_putk (k := o) h v) (by simp; omega)
    rw [World.setCells]
    have e : (xs.set o v).take (o + 1) ++ r ++ (xs.set o v).drop (o + 1 + r.length) = xs.take o ++ v :: r ++ xs.drop (o + (v :: r).length) := by
      rw [List.drop_set_of_lt (by omega), List.take_add_one, List.take_set_of_le (Nat.le_refl _), List.getElem?_set_self (by omega)]
      simp [Nat.add_comm, Nat.add_left_comm]
    rwa [e] at this
theorem eStr : ElemK Tryz.prog 22 9 (.string ⟨#[]⟩) 1 16 := ElemK.mk_ Tryz.underlying22 (by kernel_rfl) rfl
set_option maxRecDepth 100000 in
set_option maxHeartbeats 4000000 in
/-- slices.Delete of one element at a row of the call's own. -/
theorem delS (B g n cap i : Nat) (xs : List Value) (w : World) (hown : w.ownsRow B 9 1 (.slice (some ⟨g, 0, none⟩) n cap) n xs) (hi : i < n) (h1x : ∀ v ∈ xs, v.oneCell' = true) :
    Calls Tryz.prog 37 #[.slice (some ⟨g, 0, none⟩) n cap, .int .i64 i, .int .i64 ((i : Int) + 1)] w fun e w' => e = .returned (.slice (some ⟨g, 0, none⟩) (n - 1) cap) ∧
      w'.ownsRow B 9 1 (.slice (some ⟨g, 0, none⟩) (n - 1) cap) (n - 1) (xs.take (i * 1) ++ xs.drop ((i + 1) * 1)) ∧ FrS w.heap.size (fun k => k = g) w w' := by
  obtain ⟨i0, hi0, hz0, hz1, hz2⟩ := info_parts insRowS
  have hxl := hown.1
  have hgl := (own_lt hown g rfl).2
  have hcaps := (SlM.caps (SlM.of_own hown)).2
  unfold maxLen at hcaps
  obtain ⟨hnc, hcm⟩ := hcaps
  have hcs := (own_cells hown (by omega))
  obtain ⟨g', cap', ev, -, -, hcell, hfz⟩ := hcs
  injection ev with e1 _ e2
  injection e1 with e1
  injection e1 with e1
  subst e1; subst e2
  obtain ⟨news, hnews⟩ : ∃ news, news = xs.drop ((i + 1) * 1) := ⟨_, rfl⟩
  have hlen : news.length = (n - (i + 1)) * 1 := by rw [hnews, List.length_drop, hxl]; omega
  have hget : ∀ t u, news[t]? = some u → w.cell? ⟨g, (i + 1) * 1 + t, none⟩ = some u := fun t u hu => by
    rw [hnews, List.getElem?_drop] at hu
    exact hcell _ _ hu
  obtain ⟨A, hA, hsrc⟩ : ∃ A : Addr, (if cap = i + 1 then (some ⟨g, 0, none⟩ : Option Addr) else some ⟨g, i + 1, none⟩) = some A ∧ Hid (∀ t u, news[t]? = some u → w.drew.cell? (A.add t) = some u) := by
    by_cases h : cap = i + 1
    · refine ⟨⟨g, 0, none⟩, by simp [h], fun t u hu => ?_⟩
      have h0 : news.length = 0 := by rw [hlen]; omega
      rw [List.length_eq_zero_iff.1 h0] at hu
      simp at hu
    · refine ⟨⟨g, i + 1, none⟩, by simp [h], fun t u hu => ?_⟩
      rw [add_plain]
      have := hget t u hu
      rw [show (i + 1) * 1 = i + 1 by omega] at this
      exact this
  have s1 : Hid (news.length = (n - (i + 1)) * 1) := hlen
  have s2 : Hid (∀ u ∈ news, u.oneCell' = true) := fun u hu => h1x u (by rw [hnews] at hu; exact List.mem_of_mem_drop hu)
  have s3 : Hid (∀ t, t < news.length → (w.drew.cell? ⟨g, 0 + i * 1 + t, none⟩).isSome = true ∧ w.drew.frozen? ⟨g, 0 + i * 1 + t, none⟩ = false) := fun t ht => by
    rw [hlen] at ht
    rw [Nat.zero_add]
    refine ⟨?_, hfz _⟩
    have h7 : xs[i * 1 + t]? = some (xs[i * 1 + t]'(by omega)) := List.getElem?_eq_getElem _
    show (w.cell? _).isSome = true
    rw [hcell _ _ h7]; rfl
  obtain ⟨W1, hW1⟩ : ∃ W1, W1 = w.drew.setCells g (0 + i * 1) news := ⟨_, rfl⟩
  have ho1 : W1.ownsRow B 9 1 (.slice (some ⟨g, 0, none⟩) n cap) n (xs.take (i * 1) ++ news ++ xs.drop (i * 1 + news.length)) := by
    have h := own_setCells news (i * 1) w.drew xs (own_same hown fun _ _ => rfl) (by rw [hlen, hxl]; omega)
    rw [hW1, Nat.zero_add]; exact h
  have hf1 : FrS w.heap.size (fun k => k = g) w W1 := by
    rw [hW1]
    exact setCells_frs (FrS.refl w.heap.size (fun k => k = g) w).drew (.inr rfl) _ _
  obtain ⟨W2, hrun, ho2, hg2⟩ := run_clear_own eStr (fun w => by kernel_rfl) (fun m v hv => by
    simp only [Builtin.zeroCells, Array.toList_map, List.mem_map] at hv
    obtain ⟨j, _, rfl⟩ := hv
    show (#[Value.string ⟨#[]⟩][j % 1]!).oneCell' = true
    have hj : j % 1 < 1 := Nat.mod_lt _ (by omega)
    generalize j % 1 = q at hj
    obtain rfl : q = 0 := by omega
    rfl) ho1 (k := n - 1) (by omega)
  have ht : (xs.take (i * 1) ++ news ++ xs.drop (i * 1 + news.length)).take ((n - 1) * 1) = xs.take (i * 1) ++ xs.drop ((i + 1) * 1) := by
    rw [← hnews]
    apply List.take_left'
    rw [List.length_append, List.length_take, hlen, hxl]; omega
  rw [ht] at ho2
  have hf2 : FrS w.heap.size (fun k => k = g) w W2 := hf1.trans ⟨hg2.os, hg2.tape, hg2.output, hg2.size, fun k hk hne => hg2.block k (Nat.lt_of_lt_of_le hk hf1.size) fun e => hne (by injection e)⟩
  have HO2 := Lib.hid ho2
  have HF2 := Lib.hid hf2
  have hW : Hid (W1 = w.drew.setCells g (0 + i * 1) news) := hW1
  have hrn : ∀ ty, (Builtin.clear_ #[22] ty #[.slice (some ⟨g, (n - 1), none⟩) (n - (n - 1)) (cap - (n - 1))]).run Tryz.prog W1 = .ok (.tuple #[]) W2 := fun ty => by
    have := hrun ty (cap - (n - 1))
    rw [Nat.mul_one] at this
    exact this
  clear hcell hfz hnews hlen hget hW1 ho1 hf1 hrun ho2 hg2 ht hf2 hown hxl h1x
  have hw1 : IntKind.i64.wrap ((i : Int) + 1) = (i : Int) + 1 := by rw [IntKind.wrap_i64]; omega
  have hb1 : (0 : Int) ≤ (i : Int) + 1 := by omega
  have hb2 : (i : Int) + 1 ≤ (n : Int) := by omega
  have hb3 : (i : Int) ≤ (i : Int) + 1 := by omega
  have htn : ((i : Int) + 1).toNat = i + 1 := by omega
  have hne : ¬ ((i : Int) = (i : Int) + 1) := by omega
  have hic : i ≤ cap := by omega
  have hin : i ≤ n := by omega
  have hq : i + (n - (i + 1)) = n - 1 := by omega
  have hq2 : ¬ (cap = n - 1) := by omega
  have hq3 : n - 1 ≤ n := by omega
  have hq4 : n ≤ cap := by omega
  go_enter Tryz.func37, Tryz.ntmps37
  go_wp2_with fail
  go_region_law (refine step_append_room rfl (.tmp 22) (.tmp 25) 22 rfl 9 i0 1 Tryz.underlying22 hi0 hz1 g 0 i cap (by simp [Act.eval, Act.put]) A (n - (i + 1)) (cap - (i + 1)) news (by simp [Act.eval, Act.put]) s1.out hsrc.out s2.out (by omega) s3.out ?_; rw [← hW.out])
  go_wp2
  go_ret
  exact ⟨rfl, HO2.out, HF2.out⟩
set_option maxRecDepth 100000 in
set_option maxHeartbeats 4000000 in
/-- slices.Delete of one element at a row of the call's own. -/
theorem delO (B g n cap i : Nat) (xs : List Value) (w : World) (hown : w.ownsRow B 25 5 (.slice (some ⟨g, 0, none⟩) n cap) n xs) (hi : i < n) (h1x : ∀ v ∈ xs, v.oneCell' = true) :
    Calls Tryz.prog 36 #[.slice (some ⟨g, 0, none⟩) n cap, .int .i64 i, .int .i64 ((i : Int) + 1)] w fun e w' => e = .returned (.slice (some ⟨g, 0, none⟩) (n - 1) cap) ∧
      w'.ownsRow B 25 5 (.slice (some ⟨g, 0, none⟩) (n - 1) cap) (n - 1) (xs.take (i * 5) ++ xs.drop ((i + 1) * 5)) ∧ FrS w.heap.size (fun k => k = g) w w' := by
  obtain ⟨i0, hi0, hz0, hz1, hz2⟩ := info_parts insRowO
  have hxl := hown.1
  have hgl := (own_lt hown g rfl).2
  have hcaps := (SlM.caps (SlM.of_own hown)).2
  unfold maxLen at hcaps
  obtain ⟨hnc, hcm⟩ := hcaps
  have hcs := (own_cells hown (by omega))
  obtain ⟨g', cap', ev, -, -, hcell, hfz⟩ := hcs
  injection ev with e1 _ e2
  injection e1 with e1
  injection e1 with e1
  subst e1; subst e2
  obtain ⟨news, hnews⟩ : ∃ news, news = xs.drop ((i + 1) * 5) := ⟨_, rfl⟩
  have hlen : news.length = (n - (i + 1)) * 5 := by rw [hnews, List.length_drop, hxl]; omega
  have hget : ∀ t u, news[t]? = some u → w.cell? ⟨g, (i + 1) * 5 + t, none⟩ = some u := fun t u hu => by
    rw [hnews, List.getElem?_drop] at hu
    exact hcell _ _ hu
  obtain ⟨A, hA, hsrc⟩ : ∃ A : Addr, (if cap = i + 1 then (some ⟨g, 0, none⟩ : Option Addr) else some ⟨g, (i + 1) * 5, none⟩) = some A ∧ Hid (∀ t u, news[t]? = some u → w.drew.cell? (A.add t) = some u) := by
    by_cases h : cap = i + 1
    · refine ⟨⟨g, 0, none⟩, by simp [h], fun t u hu => ?_⟩
      have h0 : news.length = 0 := by rw [hlen]; omega
      rw [List.length_eq_zero_iff.1 h0] at hu
      simp at hu
    · refine ⟨⟨g, (i + 1) * 5, none⟩, by simp [h], fun t u hu => ?_⟩
      rw [add_plain]
      have := hget t u hu
      rw [show (i + 1) * 5 = (i + 1) * 5 by omega] at this
      exact this
  have s1 : Hid (news.length = (n - (i + 1)) * 5) := hlen
  have s2 : Hid (∀ u ∈ news, u.oneCell' = true) := fun u hu => h1x u (by rw [hnews] at hu; exact List.mem_of_mem_drop hu)
  have s3 : Hid (∀ t, t < news.length → (w.drew.cell? ⟨g, 0 + i * 5 + t, none⟩).isSome = true ∧ w.drew.frozen? ⟨g, 0 + i * 5 + t, none⟩ = false) := fun t ht => by
    rw [hlen] at ht
    rw [Nat.zero_add]
    refine ⟨?_, hfz _⟩
    have h7 : xs[i * 5 + t]? = some (xs[i * 5 + t]'(by omega)) := List.getElem?_eq_getElem _
    show (w.cell? _).isSome = true
    rw [hcell _ _ h7]; rfl
  obtain ⟨W1, hW1⟩ : ∃ W1, W1 = w.drew.setCells g (0 + i * 5) news := ⟨_, rfl⟩
  have ho1 : W1.ownsRow B 25 5 (.slice (some ⟨g, 0, none⟩) n cap) n (xs.take (i * 5) ++ news ++ xs.drop (i * 5 + news.length)) := by
    have h := own_setCells news (i * 5) w.drew xs (own_same hown fun _ _ => rfl) (by rw [hlen, hxl]; omega)
    rw [hW1, Nat.zero_add]; exact h
  have hf1 : FrS w.heap.size (fun k => k = g) w W1 := by
    rw [hW1]
    exact setCells_frs (FrS.refl w.heap.size (fun k => k = g) w).drew (.inr rfl) _ _
  obtain ⟨W2, hrun, ho2, hg2⟩ := run_clear_own eOb (fun w => by kernel_rfl) (fun m v hv => by
    simp only [Builtin.zeroCells, Array.toList_map, List.mem_map] at hv
    obtain ⟨j, _, rfl⟩ := hv
    show (#[Value.int .i64 0, .int .i64 0, .string ⟨#[]⟩, .slice none 0 0, .slice none 0 0][j % 5]!).oneCell' = true
    have hj : j % 5 < 5 := Nat.mod_lt _ (by omega)
    generalize j % 5 = q at hj
    rcases (show q = 0 ∨ q = 1 ∨ q = 2 ∨ q = 3 ∨ q = 4 by omega) with h | h | h | h | h <;> subst h <;> rfl) ho1 (k := n - 1) (by omega)
  have ht : (xs.take (i * 5) ++ news ++ xs.drop (i * 5 + news.length)).take ((n - 1) * 5) = xs.take (i * 5) ++ xs.drop ((i + 1) * 5) := by
    rw [← hnews]
    apply List.take_left'
    rw [List.length_append, List.length_take, hlen, hxl]; omega
  rw [ht] at ho2
  have hf2 : FrS w.heap.size (fun k => k = g) w W2 := hf1.trans ⟨hg2.os, hg2.tape, hg2.output, hg2.size, fun k hk hne => hg2.block k (Nat.lt_of_lt_of_le hk hf1.size) fun e => hne (by injection e)⟩
  have HO2 := Lib.hid ho2
  have HF2 := Lib.hid hf2
  have hW : Hid (W1 = w.drew.setCells g (0 + i * 5) news) := hW1
  have hrn : ∀ ty, (Builtin.clear_ #[23] ty #[.slice (some ⟨g, (n - 1) * 5, none⟩) (n - (n - 1)) (cap - (n - 1))]).run Tryz.prog W1 = .ok (.tuple #[]) W2 := fun ty => by
    have := hrun ty (cap - (n - 1))
    skip
    exact this
  clear hcell hfz hnews hlen hget hW1 ho1 hf1 hrun ho2 hg2 ht hf2 hown hxl h1x
  have hw1 : IntKind.i64.wrap ((i : Int) + 1) = (i : Int) + 1 := by rw [IntKind.wrap_i64]; omega
  have hb1 : (0 : Int) ≤ (i : Int) + 1 := by omega
  have hb2 : (i : Int) + 1 ≤ (n : Int) := by omega
  have hb3 : (i : Int) ≤ (i : Int) + 1 := by omega
  have htn : ((i : Int) + 1).toNat = i + 1 := by omega
  have hne : ¬ ((i : Int) = (i : Int) + 1) := by omega
  have hic : i ≤ cap := by omega
  have hin : i ≤ n := by omega
  have hq : i + (n - (i + 1)) = n - 1 := by omega
  have hq2 : ¬ (cap = n - 1) := by omega
  have hq3 : n - 1 ≤ n := by omega
  have hq4 : n ≤ cap := by omega
  go_enter Tryz.func36, Tryz.ntmps36
  go_wp2_with fail
  go_region_law (refine step_append_room rfl (.tmp 22) (.tmp 25) 23 rfl 25 i0 5 Tryz.underlying23 hi0 hz1 g 0 i cap (by simp [Act.eval, Act.put]) A (n - (i + 1)) (cap - (i + 1)) news (by simp [Act.eval, Act.put]) s1.out hsrc.out s2.out (by omega) s3.out ?_; rw [← hW.out])
  go_wp2
  go_ret
  exact ⟨rfl, HO2.out, HF2.out⟩
end Go.Proofs.YthbdhijkdldmoaaGreatDoor
