/- Subset: what it returns; the two ends at which nothing is built. Small facts for Subset's last loops: the map of codes as it grows, rows of several cells that are written. -/
import Derived.Test.YtefkglmdkjkbiaaDoorFntClone
import Derived.Test.YtefkglmdkjkbiaaDoorFntNeed
import Derived.Test.YtefkglmdkjkbiaaDoorFntDel
import Derived.Test.YtefkglmdkjkbiaaDoorFntDec
import Derived.Test.YtefkglmdkjkbiaaDoorFntPls
namespace Go.Proofs.YtefkglmdkjkbiaaDoor
open Go.RowKit Fnt
/-- What Subset answers for the codes used. -/
def subA (F : Font) (cs : List Int) : Font × List Nat × Int := if checkE (subF F cs) = 0 then (subF F cs, oldOf (keepOf F cs), 0) else (zeroF, [], checkE (subF F cs))
/-- What Subset answers. -/
def SubIs (F : Font) (codes : List Int) (r : Font × List Nat × Int) : Prop :=
  if checkE F ≠ 0 then r = (zeroF, [], checkE F) else if 1024 < codes.length then r = (zeroF, [], 2) else ∃ cs, Cs F codes cs ∧ r = subA F cs
def SubPost (F : Font) (codes : List Int) (w : World) (e : Ending) (w' : World) : Prop :=
  ∃ r vf vo, SubIs F codes r ∧ e = .returned (.tuple #[vf, vo, .int .i64 r.2.2]) ∧ FntV w' (fun k => w.heap.size ≤ k) vf r.1 ∧ Sl w' (fun k => w.heap.size ≤ k) vo (ints (r.2.1.map Int.ofNat)) ∧ Below w.heap.size w w'
theorem nil_sl (w : World) (ok : Nat → Prop) : Sl w ok (.slice none 0 0) [] := ⟨none, 0, rfl, Nat.le_refl _, by simp, fun h => absurd h (by simp)⟩
set_option maxRecDepth 100000 in
set_option maxHeartbeats 4000000 in
theorem sub_bad (F : Font) (fv cv : Value) (codes : List Int) (ok : Nat → Prop) (w : World) (hf : FntV w ok fv F) (hT : Tab w) (h0 : 0 < w.heap.size) (hbad : checkE F ≠ 0) :
    Calls Tryd.prog 18 #[fv, cv] w (SubPost F codes w) := by
  have HP : Hid (∀ w', Below w.heap.size w w' → SubPost F codes w (.returned (.tuple #[.agg #[.int .i64 0, .slice none 0 0, .slice none 0 0, .slice none 0 0], .slice none 0 0, .int .i64 (checkE F)])) w') := fun w' h => by
    refine ⟨(zeroF, [], checkE F), _, _, ?_, rfl, zero_fnt _ _, nil_sl _ _, h⟩
    unfold SubIs; rw [if_pos hbad]
  generalize SubPost F codes w = Q at *
  have HF := Lib.hid fun W hb => check_any F fv ok W (hf.later (w' := W) hb)
  obtain ⟨vg, vm, vk, rfl, hgs, hmp, hkn⟩ := hf
  obtain ⟨Ag, cg, rfl, hg1, hg2⟩ : ∃ A c, vg = .slice A F.gs.length c ∧ F.gs.length ≤ c ∧ c ≤ maxLen := by
    obtain ⟨vs, ⟨A, c, e, a, b, _⟩, _⟩ := hgs
    exact ⟨A, c, e, a, b⟩
  obtain ⟨Am, cm, rfl⟩ := SlM.form hmp
  obtain ⟨Ak, ck, rfl⟩ := SlM.form hkn
  have hb1 := ((Below.refl w.heap.size w).alloc (Nat.le_refl _) (.cells #[.int .i64 F.unit, .slice Ag F.gs.length cg, .slice Am F.map.length cm, .slice Ak F.kern.length ck] 26)).alloc (by simp) (.cells #[.int .i64 0, .slice none 0 0, .slice none 0 0, .slice none 0 0] 26)
  have HC := Lib.hid (HF.out _ hb1 (fun i hi => (hb1.cell (p := ⟨0, i, none⟩) h0).trans (hT i hi)) (Nat.lt_of_lt_of_le h0 hb1.size))
  have HB1 := Lib.hid hb1
  have hk1 := Blk.new (w.alloc (.cells #[.int .i64 F.unit, .slice Ag F.gs.length cg, .slice Am F.map.length cm, .slice Ak F.kern.length ck] 26)) 26 #[.int .i64 0, .slice none 0 0, .slice none 0 0, .slice none 0 0]
  have hsz : (w.alloc (.cells #[.int .i64 F.unit, .slice Ag F.gs.length cg, .slice Am F.map.length cm, .slice Ak F.kern.length ck] 26)).heap.size = w.heap.size + 1 := by simp
  rw [hsz] at hk1
  have HK1 := Lib.hid hk1
  clear hgs hmp hkn HF hb1 hT hk1 hsz
  generalize checkE F = e0 at *
  go_enter Tryd.func18, Tryd.ntmps18
  go_wp2_with fail
  refine HC.out.mono ?_
  rintro e w5 ⟨rfl, hb5⟩
  have HB5 : Hid (Below w.heap.size w w5) := HB1.out.trans (hb5.mono HB1.out.size)
  have hk5 : Blk w5 (w.heap.size + 1) _ _ := HK1.out.below hb5 (by simp)
  have hl5 := hk5.lt
  have k0 := hk5.cell 0
  have k1 := hk5.cell 1
  have k2 := hk5.cell 2
  have k3 := hk5.cell 3
  have f0 := hk5.frozen 0
  have f1 := hk5.frozen 1
  have f2 := hk5.frozen 2
  have f3 := hk5.frozen 3
  simp only [List.getElem?_toArray, List.getElem?_cons_zero, List.getElem?_cons_succ] at k0 k1 k2 k3
  clear hb5 hk5
  go_wp2
  refine bodyPost_ret (v := .tuple #[.agg #[.int .i64 0, .slice none 0 0, .slice none 0 0, .slice none 0 0], .slice none 0 0, .int .i64 e0]) (by simp [results, Tryd.results18, go_sem, World.cell?_setCell_other, World.cell?_setCell_same, k0, k1, k2, k3]) rfl (HP.out _ ?_)
  exact (((HB5.out.setCell (p := ⟨w.heap.size + 1, 0, none⟩) (by show w.heap.size ≤ w.heap.size + 1; omega) _).setCell (p := ⟨w.heap.size + 1, 1, none⟩) (by show w.heap.size ≤ w.heap.size + 1; omega) _).setCell (p := ⟨w.heap.size + 1, 2, none⟩) (by show w.heap.size ≤ w.heap.size + 1; omega) _).setCell (p := ⟨w.heap.size + 1, 3, none⟩) (by show w.heap.size ≤ w.heap.size + 1; omega) _
set_option maxRecDepth 100000 in
set_option maxHeartbeats 4000000 in
theorem sub_large (F : Font) (fv : Value) (Ac : Option Addr) (cc : Nat) (codes : List Int) (ok : Nat → Prop) (w : World) (hf : FntV w ok fv F) (hT : Tab w) (h0 : 0 < w.heap.size) (hok : checkE F = 0) (hl : 1024 < codes.length) :
    Calls Tryd.prog 18 #[fv, .slice Ac codes.length cc] w (SubPost F codes w) := by
  have HP : Hid (∀ w', Below w.heap.size w w' → SubPost F codes w (.returned (.tuple #[.agg #[.int .i64 0, .slice none 0 0, .slice none 0 0, .slice none 0 0], .slice none 0 0, .int .i64 2])) w') := fun w' h => by
    refine ⟨(zeroF, [], 2), _, _, ?_, rfl, zero_fnt _ _, nil_sl _ _, h⟩
    unfold SubIs; rw [if_neg (fun h => h hok), if_pos hl]
  generalize SubPost F codes w = Q at *
  have HF := Lib.hid fun W hb => check_any F fv ok W (hf.later (w' := W) hb)
  rw [hok] at HF
  obtain ⟨vg, vm, vk, rfl, hgs, hmp, hkn⟩ := hf
  obtain ⟨Ag, cg, rfl, hg1, hg2⟩ : ∃ A c, vg = .slice A F.gs.length c ∧ F.gs.length ≤ c ∧ c ≤ maxLen := by
    obtain ⟨vs, ⟨A, c, e, a, b, _⟩, _⟩ := hgs
    exact ⟨A, c, e, a, b⟩
  obtain ⟨Am, cm, rfl⟩ := SlM.form hmp
  obtain ⟨Ak, ck, rfl⟩ := SlM.form hkn
  have hb1 := ((Below.refl w.heap.size w).alloc (Nat.le_refl _) (.cells #[.int .i64 F.unit, .slice Ag F.gs.length cg, .slice Am F.map.length cm, .slice Ak F.kern.length ck] 26)).alloc (by simp) (.cells #[.int .i64 0, .slice none 0 0, .slice none 0 0, .slice none 0 0] 26)
  have HC := Lib.hid (HF.out _ hb1 (fun i hi => (hb1.cell (p := ⟨0, i, none⟩) h0).trans (hT i hi)) (Nat.lt_of_lt_of_le h0 hb1.size))
  have HB1 := Lib.hid hb1
  have hk1 := Blk.new (w.alloc (.cells #[.int .i64 F.unit, .slice Ag F.gs.length cg, .slice Am F.map.length cm, .slice Ak F.kern.length ck] 26)) 26 #[.int .i64 0, .slice none 0 0, .slice none 0 0, .slice none 0 0]
  have hsz : (w.alloc (.cells #[.int .i64 F.unit, .slice Ag F.gs.length cg, .slice Am F.map.length cm, .slice Ak F.kern.length ck] 26)).heap.size = w.heap.size + 1 := by simp
  rw [hsz] at hk1
  have HK1 := Lib.hid hk1
  clear hgs hmp hkn HF hb1 hT hk1 hsz
  clear hok
  generalize codes.length = n at *
  go_enter Tryd.func18, Tryd.ntmps18
  go_wp2_with fail
  refine HC.out.mono ?_
  rintro e w5 ⟨rfl, hb5⟩
  have HB5 : Hid (Below w.heap.size w w5) := HB1.out.trans (hb5.mono HB1.out.size)
  have hk5 : Blk w5 (w.heap.size + 1) _ _ := HK1.out.below hb5 (by simp)
  have hl5 := hk5.lt
  have k0 := hk5.cell 0
  have k1 := hk5.cell 1
  have k2 := hk5.cell 2
  have k3 := hk5.cell 3
  have f0 := hk5.frozen 0
  have f1 := hk5.frozen 1
  have f2 := hk5.frozen 2
  have f3 := hk5.frozen 3
  simp only [List.getElem?_toArray, List.getElem?_cons_zero, List.getElem?_cons_succ] at k0 k1 k2 k3
  clear hb5 hk5
  go_wp2
  refine bodyPost_ret (v := .tuple #[.agg #[.int .i64 0, .slice none 0 0, .slice none 0 0, .slice none 0 0], .slice none 0 0, .int .i64 2]) (by simp [results, Tryd.results18, go_sem, World.cell?_setCell_other, World.cell?_setCell_same, k0, k1, k2, k3]) rfl (HP.out _ ?_)
  exact (((HB5.out.setCell (p := ⟨w.heap.size + 1, 0, none⟩) (by show w.heap.size ≤ w.heap.size + 1; omega) _).setCell (p := ⟨w.heap.size + 1, 1, none⟩) (by show w.heap.size ≤ w.heap.size + 1; omega) _).setCell (p := ⟨w.heap.size + 1, 2, none⟩) (by show w.heap.size ≤ w.heap.size + 1; omega) _).setCell (p := ⟨w.heap.size + 1, 3, none⟩) (by show w.heap.size ≤ w.heap.size + 1; omega) _
end Go.Proofs.YtefkglmdkjkbiaaDoor
namespace Go.Proofs.YtefkglmdkjkbiaaDoor
open Go.RowKit Fnt
/-- A range with numbers that stay small. -/
structure RB (x : Rg) : Prop where
  lo0 : 0 ≤ x.lo
  lo1 : x.lo ≤ 1114111
  hi0 : 0 ≤ x.hi
  hi1 : x.hi ≤ 1114111
  g0 : 0 ≤ x.g
  g1 : x.g ≤ 128
theorem getD_rb {m : List Rg} (h : ∀ x ∈ m, RB x) {i : Nat} (hi : i < m.length) : RB (m.getD i default) := by
  rw [List.getD_eq_getElem?_getD, List.getElem?_eq_getElem hi]; exact h _ (List.getElem_mem hi)
theorem addC_rb {m : List Rg} (h : ∀ x ∈ m, RB x) {c g : Int} (c0 : 0 ≤ c) (c1 : c ≤ 1114111) (g0 : 0 ≤ g) (g1 : g ≤ 128) : ∀ x ∈ addC m c g, RB x := by
  intro x hx
  unfold addC at hx
  split at hx
  · rename_i hc
    simp only [Bool.and_eq_true, decide_eq_true_eq] at hc
    have hl := getD_rb h (i := m.length - 1) (by omega)
    rcases List.mem_or_eq_of_mem_set hx with hx | rfl
    · exact h x hx
    · exact ⟨hl.lo0, hl.lo1, c0, c1, hl.g0, hl.g1⟩
  · rw [List.mem_append, List.mem_singleton] at hx
    rcases hx with hx | rfl
    · exact h x hx
    · exact ⟨c0, c1, c0, c1, g0, g1⟩
theorem addC_len (m : List Rg) (c g : Int) : (addC m c g).length ≤ m.length + 1 := by
  unfold addC
  split
  · rw [List.length_set]; omega
  · rw [List.length_append, List.length_singleton]; omega
def mapTo (cs : List Int) (fn : Int → Int) (i : Nat) : List Rg := (cs.take i).foldl (fun m c => addC m c (fn c)) []
theorem mapTo_succ (cs : List Int) (fn : Int → Int) {i : Nat} (h : i < cs.length) : mapTo cs fn (i + 1) = addC (mapTo cs fn i) (cs.getD i 0) (fn (cs.getD i 0)) := by
  unfold mapTo; rw [take_next cs i 0 h, List.foldl_append]; rfl
theorem mapTo_full (cs : List Int) (fn : Int → Int) : mapTo cs fn cs.length = mapOf cs fn := by
  unfold mapTo mapOf; rw [List.take_length]
theorem mapTo_len (cs : List Int) (fn : Int → Int) : ∀ i, i ≤ cs.length → (mapTo cs fn i).length ≤ i
  | 0, _ => Nat.le_refl _
  | i + 1, h => by
    rw [mapTo_succ cs fn (by omega)]
    have := addC_len (mapTo cs fn i) (cs.getD i 0) (fn (cs.getD i 0))
    have := mapTo_len cs fn i (by omega)
    omega
theorem mapTo_rb (cs : List Int) (fn : Int → Int) (hc : ∀ c ∈ cs, 0 ≤ c ∧ c ≤ 1114111) (hf : ∀ c, 0 ≤ fn c ∧ fn c ≤ 128) : ∀ i, i ≤ cs.length → ∀ x ∈ mapTo cs fn i, RB x
  | 0, _ => fun x hx => absurd hx (by unfold mapTo; simp)
  | i + 1, h => by
    rw [mapTo_succ cs fn (by omega)]
    have hm : cs.getD i 0 ∈ cs := by rw [List.getD_eq_getElem?_getD, List.getElem?_eq_getElem (by omega)]; exact List.getElem_mem _
    exact addC_rb (mapTo_rb cs fn hc hf i (by omega)) (hc _ hm).1 (hc _ hm).2 (hf _).1 (hf _).2
theorem code_bd {F : Font} (h : FOk F) {codes cs : List Int} (hc : Cs F codes cs) : ∀ c ∈ cs, 0 ≤ c ∧ c ≤ 1114111 := by
  intro c hm
  have hn := ((hc.mem c).1 hm).2
  unfold find at hn
  split at hn
  · exact absurd rfl hn
  · rename_i h0
    split at hn
    · exact absurd rfl hn
    · rename_i h1
      have h2 := fRange_lo F c (by omega)
      have h3 := fRange_le F c
      have h4 := h.rg (fRange F c - 1) (by omega)
      have := h4.lo0; have := h4.hi1
      omega
theorem num_le {K : List Bool} {N : Nat} (hK : K.length ≤ N) (g : Nat) : num K g ≤ N := by
  unfold num
  split
  · rename_i h
    have := ktp_lt h
    unfold keptTo
    have h2 := List.length_filter_le (ktp K) (List.range g)
    rw [List.length_range] at h2
    omega
  · omega
/-- The last range takes in one more code. -/
theorem addC_hit {m : List Rg} {c g : Int} (h0 : 0 < m.length) (h1 : (m.getD (m.length - 1) default).hi = c - 1) (h2 : (m.getD (m.length - 1) default).g + c - (m.getD (m.length - 1) default).lo = g) :
    addC m c g = m.set (m.length - 1) ⟨(m.getD (m.length - 1) default).lo, c, (m.getD (m.length - 1) default).g⟩ := by
  unfold addC; rw [if_pos (by rw [decide_eq_true h0, decide_eq_true h1, decide_eq_true h2]; rfl)]
theorem addC_miss {m : List Rg} {c g : Int} (h : ¬ (0 < m.length ∧ (m.getD (m.length - 1) default).hi = c - 1 ∧ (m.getD (m.length - 1) default).g + c - (m.getD (m.length - 1) default).lo = g)) : addC m c g = m ++ [⟨c, c, g⟩] := by
  unfold addC
  rw [if_neg (by
    intro e
    simp only [Bool.and_eq_true, decide_eq_true_eq] at e
    exact h e)]
theorem rgc_set (m : List Rg) (c : Int) : ∀ i, i < m.length → (m.flatMap rgc).set (i * 3 + 1) (.int .i64 c) = (m.set i ⟨(m.getD i default).lo, c, (m.getD i default).g⟩).flatMap rgc := by
  induction m with
  | nil => intro i h; exact absurd h (by simp)
  | cons x m ih =>
    intro i h
    cases i with
    | zero => simp [rgc]
    | succ i =>
      have := ih i (by simpa using h)
      simp only [List.flatMap_cons, List.set_cons_succ, List.getD_cons_succ]
      rw [← this, show (i + 1) * 3 + 1 = (i * 3 + 1) + 1 + 1 + 1 by omega]
      rfl
/-- A row of the call's own, its cells. -/
theorem own_cells {w : World} {base size n : Nat} {t : TypeId} {v : Value} {xs : List Value} (h : w.ownsRow base t size v n xs) (hn : 0 < n) :
    ∃ g cap, v = .slice (some ⟨g, 0, none⟩) n cap ∧ base ≤ g ∧ g < w.heap.size ∧ (∀ k u, xs[k]? = some u → w.cell? ⟨g, k, none⟩ = some u) ∧ ∀ k, w.frozen? ⟨g, k, none⟩ = false := by
  have hb := own_lt h
  have hs := SlM.of_own h
  obtain ⟨hl, h⟩ := h
  rcases h with ⟨rfl, rfl⟩ | ⟨g, cap, cur, rfl, hg, hh, hnc, hcm, hsz', hx⟩
  · omega
  · obtain ⟨b, off, e, _, _, hc⟩ := SlM.addr hs hn
    injection e with e
    injection e with e1 e2
    subst e1; subst e2
    exact ⟨g, cap, rfl, hg, (hb g rfl).2, fun k u hu => by have := hc k u hu; rwa [Nat.zero_add] at this, fun k => by simp [World.frozen?, hh]⟩
theorem own_putk {w : World} {base g n cap k size : Nat} {t : TypeId} {xs : List Value} (h : w.ownsRow base t size (.slice (some ⟨g, 0, none⟩) n cap) n xs) (u : Value) : (w.setCell ⟨g, k, none⟩ u).ownsRow base t size (.slice (some ⟨g, 0, none⟩) n cap) n (xs.set k u) := by
  obtain ⟨hl, h⟩ := h
  refine ⟨by simpa using hl, ?_⟩
  rcases h with ⟨e, _⟩ | ⟨g', cap', cur, e, hg, hh, hn, hc, hs, hx⟩
  · cases e
  · injection e with e1 _ e3
    injection e1 with e1
    injection e1 with e1
    subst e1; subst e3
    refine .inr ⟨g, cap, cur.setIfInBounds k u, rfl, hg, ?_, hn, hc, by simpa using hs, ?_⟩
    · simp [World.setCell, Array.getElem?_modify, hh]
    · rw [Array.toList_setIfInBounds, List.take_set, hx]
theorem Gls.mono {w : World} {ok ok' : Nat → Prop} {v : Value} {gs : List Gl} (h : Gls w ok v gs) (hk : ∀ b, b < w.heap.size → ok b → ok' b) : Gls w ok' v gs := by
  obtain ⟨vs, h1, h2⟩ := h
  exact ⟨vs, h1.mono hk, fun i hi => ⟨(h2 i hi).1.mono hk, SlM.mono (h2 i hi).2 hk⟩⟩
theorem FntV.mono {w : World} {ok ok' : Nat → Prop} {v : Value} {F : Font} (h : FntV w ok v F) (hk : ∀ b, b < w.heap.size → ok b → ok' b) : FntV w ok' v F := by
  obtain ⟨vg, vm, vk, hv, h1, h2, h3⟩ := h
  exact ⟨vg, vm, vk, hv, h1.mono hk, h2.mono hk, h3.mono hk⟩
/-- The pairs kept, of the first i. -/
def kernTo (F : Font) (K : List Bool) (i : Nat) : List Kp := ((F.kern.take i).filter (kpk K)).map (newKp K)
theorem kernTo_hit (F : Font) (K : List Bool) {i : Nat} (hi : i < F.kern.length) (h : kpk K (kp F i) = true) : kernTo F K (i + 1) = kernTo F K i ++ [newKp K (kp F i)] := by
  unfold kernTo
  rw [take_next F.kern i default hi, List.filter_append, List.map_append]
  congr 1
  show ([kp F i].filter _).map _ = _
  rw [List.filter_cons, if_pos h]; rfl
theorem kernTo_miss (F : Font) (K : List Bool) {i : Nat} (hi : i < F.kern.length) (h : kpk K (kp F i) = false) : kernTo F K (i + 1) = kernTo F K i := by
  unfold kernTo
  rw [take_next F.kern i default hi, List.filter_append, List.map_append]
  show _ ++ ([kp F i].filter _).map _ = _
  rw [List.filter_cons, if_neg (by rw [h]; decide)]
  simp
theorem kernTo_len (F : Font) (K : List Bool) (i : Nat) : (kernTo F K i).length ≤ i := by
  unfold kernTo
  rw [List.length_map]
  have := List.length_filter_le (kpk K) (F.kern.take i)
  rw [List.length_take] at this
  omega
end Go.Proofs.YtefkglmdkjkbiaaDoor
