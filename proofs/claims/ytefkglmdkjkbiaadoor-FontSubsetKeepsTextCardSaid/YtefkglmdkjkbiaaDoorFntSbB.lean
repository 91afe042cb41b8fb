/- Subset where the font has no error: the walk. -/
import Derived.Test.YtefkglmdkjkbiaaDoorFntSbA
import Derived.Laws.EntriesVeiled
namespace Go.Proofs.YtefkglmdkjkbiaaDoor
open Go.RowKit Fnt
theorem eBo : ElemT Tryd.prog 100 4 (.bool false) 1 := ElemT.mk_ Tryd.underlying100 (by kernel_rfl) rfl
theorem eIn : ElemT Tryd.prog 27 3 (.int .i64 0) 8 := ElemT.mk_ Tryd.underlying27 (by kernel_rfl) rfl
theorem keep_next (F : Font) (cs : List Int) (i : Nat) (h : i < cs.length) : keepOf F (cs.take (i + 1)) = need F 5 (find F (cs.getD i 0)).toNat (keepOf F (cs.take i)) := by
  unfold keepOf
  rw [take_next cs i 0 h, List.foldl_append]; rfl
/-- The numbers given to the first i glyphs. -/
def numTo (K : List Bool) (N i : Nat) : List Int := (List.range N).map fun g => if g < i then (num K g : Int) else 0
theorem numTo_zero (K : List Bool) (N : Nat) : numTo K N 0 = List.replicate N 0 := by
  unfold numTo
  rw [List.eq_replicate_iff]
  exact ⟨by simp, fun b hb => by obtain ⟨g, _, rfl⟩ := List.mem_map.1 hb; simp⟩
theorem numTo_skip (K : List Bool) (N i : Nat) (h : ktp K i = false) : numTo K N (i + 1) = numTo K N i := by
  unfold numTo
  refine List.map_congr_left fun g _ => ?_
  by_cases hg : g = i
  · subst hg; rw [if_pos (by omega), if_neg (by omega)]; unfold num; rw [h]; rfl
  · by_cases h2 : g < i
    · rw [if_pos (by omega), if_pos h2]
    · rw [if_neg (by omega), if_neg h2]
theorem numTo_set (K : List Bool) (N i : Nat) (hi : i < N) (h : ktp K i = true) : (ints (numTo K N i)).set i (.int .i64 ((keptTo K i).length : Int)) = ints (numTo K N (i + 1)) := by
  show ((numTo K N i).map fun z => Value.int .i64 z).set i ((fun z => Value.int .i64 z) ((keptTo K i).length : Int)) = _
  rw [← List.map_set]
  show ints _ = ints _
  congr 1
  apply List.ext_getElem?
  intro g
  rw [List.getElem?_set]
  unfold numTo
  by_cases hg : i = g
  · subst hg
    rw [if_pos rfl, if_pos (by simpa using hi), List.getElem?_map, List.getElem?_range hi]
    simp [num, h]
  · rw [if_neg hg, List.getElem?_map, List.getElem?_map]
    by_cases hN : g < N
    · rw [List.getElem?_range hN]
      simp only [Option.map_some]
      by_cases h2 : g < i
      · rw [if_pos h2, if_pos (by omega)]
      · rw [if_neg h2, if_neg (by omega)]
    · rw [List.getElem?_eq_none (by simp; omega)]; rfl
theorem keptTo_next (K : List Bool) (i : Nat) (h : ktp K i = true) : (keptTo K (i + 1)).map Int.ofNat = (keptTo K i).map Int.ofNat ++ [(i : Int)] := by
  rw [keptTo_succ, if_pos h, List.map_append]; rfl
theorem keptTo_same (K : List Bool) (i : Nat) (h : ktp K i = false) : keptTo K (i + 1) = keptTo K i := by rw [keptTo_succ, h]; rfl
def newPa (K : List Bool) (p : Part) : Part := ⟨num K p.g.toNat, p.x, p.y⟩
theorem FrS.drew {R : Nat} {S : Nat → Prop} {w w' : World} (h : FrS R S w w') : FrS R S w w'.drew := ⟨h.os, h.tape, h.output, h.size, h.block⟩
theorem onat {l : List Nat} {i : Nat} (h : i < l.length) : (ints (l.map Int.ofNat))[i]? = some (.int .i64 ((l.getD i 0 : Nat) : Int)) := by
  unfold ints
  rw [List.getElem?_map, List.getElem?_map, List.getD_eq_getElem?_getD, List.getElem?_eq_getElem h]; rfl
theorem Cons.later {w w' : World} {ok : Nat → Prop} {v : Value} {cs : List (List Pt)} (h : Cons w ok v cs) (hb : Below w.heap.size w w') : Cons w' ok v cs := h.keep hb.size fun b _ hl => hb.block b hl
theorem keptTo_len (K : List Bool) (n : Nat) : (keptTo K n).length ≤ n := by
  unfold keptTo
  have := List.length_filter_le (ktp K) (List.range n)
  rwa [List.length_range] at this
theorem FrX.other {R R' b b' : Nat} {w w' : World} (h : FrX R b w w') (hR : R' ≤ R) (hb : R' ≤ b) : FrX R' b' w w' := ⟨h.os, h.tape, h.output, h.size, fun k hk _ => h.block k (by omega) (by omega)⟩
/-- The world in which the marks, their box and the closure's box were made. -/
def sbW (w5 : World) (N bf : Nat) : World :=
  ((w5.alloc (.cells (Array.replicate N (.bool false)) 4)).alloc (.cells #[.slice (some ⟨w5.heap.size, 0, none⟩) N N] 100)).alloc
    (.cells #[.func (.func 45) #[] #[.pointer (some ⟨w5.heap.size + 1, 0, none⟩), .pointer (some ⟨bf, 0, none⟩), .pointer (some ⟨w5.heap.size + 1 + 1, 0, none⟩)]] 101)
theorem sbW_below (w5 : World) (N bf : Nat) : Below w5.heap.size w5 (sbW w5 N bf) := (((Below.refl _ w5).alloc (Nat.le_refl _) _).alloc (by simp) _).alloc (by simp; omega) _
theorem sbW_size (w5 : World) (N bf : Nat) : (sbW w5 N bf).heap.size = w5.heap.size + 3 := by simp [sbW]
theorem sbW_row (w5 : World) (N bf : Nat) : Row (sbW w5 N bf) w5.heap.size (bools (List.replicate N false)) := by
  have h := (((Blk.new w5 4 (Array.replicate N (.bool false))).alloc (.cells #[.slice (some ⟨w5.heap.size, 0, none⟩) N N] 100)).alloc (.cells #[.func (.func 45) #[] #[.pointer (some ⟨w5.heap.size + 1, 0, none⟩), .pointer (some ⟨bf, 0, none⟩), .pointer (some ⟨w5.heap.size + 1 + 1, 0, none⟩)]] 101)).row
  unfold bools
  rw [List.map_replicate]
  rw [Array.toList_replicate] at h
  exact h
theorem sbW_in (F : Font) (ok : Nat → Prop) (w5 : World) (bf : Nat) (vg : Value) (hf : w5.cell? ⟨bf, 1, none⟩ = some vg) (hl : bf < w5.heap.size) (hg : Gls w5 ok vg F.gs) : NdIn F ok w5.heap.size (w5.heap.size + 1) bf (w5.heap.size + 1 + 1) vg (sbW w5 F.gs.length bf) := by
  have hb := sbW_below w5 F.gs.length bf
  have hs := sbW_size w5 F.gs.length bf
  refine ⟨?_, (hb.cell (p := ⟨bf, 1, none⟩) hl).trans hf, ?_, by omega, by omega, by omega, hg.later hb⟩
  · have h := (Blk.new (w5.alloc (.cells (Array.replicate F.gs.length (.bool false)) 4)) 100 #[.slice (some ⟨w5.heap.size, 0, none⟩) F.gs.length F.gs.length]).alloc (.cells #[.func (.func 45) #[] #[.pointer (some ⟨w5.heap.size + 1, 0, none⟩), .pointer (some ⟨bf, 0, none⟩), .pointer (some ⟨w5.heap.size + 1 + 1, 0, none⟩)]] 101)
    have := h.cell 0
    simpa [sbW] using this
  · have h := Blk.new ((w5.alloc (.cells (Array.replicate F.gs.length (.bool false)) 4)).alloc (.cells #[.slice (some ⟨w5.heap.size, 0, none⟩) F.gs.length F.gs.length] 100)) 101 #[.func (.func 45) #[] #[.pointer (some ⟨w5.heap.size + 1, 0, none⟩), .pointer (some ⟨bf, 0, none⟩), .pointer (some ⟨w5.heap.size + 1 + 1, 0, none⟩)]]
    have := h.cell 0
    simpa [sbW] using this
set_option maxRecDepth 100000 in
set_option maxHeartbeats 8000000 in
theorem sub_ok (F : Font) (fv : Value) (codes : List Int) (cv : Value) (okc ok : Nat → Prop) (w : World) (hf : FntV w ok fv F) (hc : Sl w okc cv (ints codes)) (hT : Tab w) (h0 : 0 < w.heap.size) (hok : checkE F = 0) (hl : codes.length ≤ 1024) :
    Calls Tryd.prog 18 #[fv, cv] w (SubPost F codes w) := by
  have hFk := fok hok
  have HF := Lib.hid fun W hb => check_any F fv ok W (hf.later (w' := W) hb)
  rw [hok] at HF
  have HFv : Hid (∀ W, Below w.heap.size w W → FntV W (fun b => ok b ∧ b < w.heap.size) fv F) := fun W hb => by
    have h1 : FntV w (fun b => ok b ∧ b < w.heap.size) fv F := by
      obtain ⟨vg, vm, vk, rfl, hgs, hmp, hkn⟩ := hf
      obtain ⟨vs, a, b⟩ := hgs
      exact ⟨vg, vm, vk, rfl, ⟨vs, a.mono fun _ h1 h2 => ⟨h2, h1⟩, fun i hi => ⟨by obtain ⟨us, c, d⟩ := (b i hi).1; exact ⟨us, c.mono fun _ h1 h2 => ⟨h2, h1⟩, fun j hj => (d j hj).mono fun _ h1 h2 => ⟨h2, h1⟩⟩, (b i hi).2.mono fun _ h1 h2 => ⟨h2, h1⟩⟩⟩, hmp.mono fun _ h1 h2 => ⟨h2, h1⟩, hkn.mono fun _ h1 h2 => ⟨h2, h1⟩⟩
    exact h1.later hb
  obtain ⟨Ac, cc, rfl⟩ := hc.form
  have hlc : (ints codes).length = codes.length := ints_length codes
  rw [hlc] at hc ⊢
  have HCd := Lib.hid hc
  obtain ⟨vg, vm, vk, rfl, hgs, hmp, hkn⟩ := hf
  obtain ⟨Ag, cg, rfl, hg1, hg2⟩ : ∃ A c, vg = .slice A F.gs.length c ∧ F.gs.length ≤ c ∧ c ≤ maxLen := by
    obtain ⟨vs, ⟨A, c, e, a, b, _⟩, _⟩ := hgs
    exact ⟨A, c, e, a, b⟩
  obtain ⟨Am, cm, rfl⟩ := SlM.form hmp
  obtain ⟨Ak, ck, rfl⟩ := SlM.form hkn
  have hb1 := ((Below.refl w.heap.size w).alloc (Nat.le_refl _) (.cells #[.int .i64 F.unit, .slice Ag F.gs.length cg, .slice Am F.map.length cm, .slice Ak F.kern.length ck] 26)).alloc (by simp) (.cells #[.int .i64 0, .slice none 0 0, .slice none 0 0, .slice none 0 0] 26)
  have HC := Lib.hid (HF.out _ hb1 (fun i hi => (hb1.cell (p := ⟨0, i, none⟩) h0).trans (hT i hi)) (Nat.lt_of_lt_of_le h0 hb1.size))
  have hkf := (Blk.new w 26 #[.int .i64 F.unit, .slice Ag F.gs.length cg, .slice Am F.map.length cm, .slice Ak F.kern.length ck]).alloc (.cells #[.int .i64 0, .slice none 0 0, .slice none 0 0, .slice none 0 0] 26)
  have hk1 := Blk.new (w.alloc (.cells #[.int .i64 F.unit, .slice Ag F.gs.length cg, .slice Am F.map.length cm, .slice Ak F.kern.length ck] 26)) 26 #[.int .i64 0, .slice none 0 0, .slice none 0 0, .slice none 0 0]
  have hsz : (w.alloc (.cells #[.int .i64 F.unit, .slice Ag F.gs.length cg, .slice Am F.map.length cm, .slice Ak F.kern.length ck] 26)).heap.size = w.heap.size + 1 := by simp
  rw [hsz] at hk1
  generalize hw1 : (w.alloc (.cells #[.int .i64 F.unit, .slice Ag F.gs.length cg, .slice Am F.map.length cm, .slice Ak F.kern.length ck] 26)).alloc (.cells #[.int .i64 0, .slice none 0 0, .slice none 0 0, .slice none 0 0] 26) = w1 at *
  have HK1 := Lib.hid hk1
  have HKf := Lib.hid hkf
  have HB1 := Lib.hid hb1
  have HT := Lib.hid hT
  have HFk := Lib.hid hFk
  have HOk0 := Lib.hid hok
  have hn1 := hFk.n1
  have hn0 := hFk.n0
  have HW1 := Lib.hid hw1
  clear hgs hmp hkn HF hb1 hk1 hkf hsz hc hlc hok hT hFk hw1
  generalize hNN : F.gs.length = N at *
  generalize hcl : codes.length = n at *
  have HNN := Lib.hid hNN
  have HCl := Lib.hid hcl
  have hmk := fun w => run_mk (P := Tryd.prog) eBo rfl N (by omega) (by omega) N rfl w
  clear hNN hcl
  go_enter Tryd.func18, Tryd.ntmps18
  go_wp2_with fail
  rw [HW1.out]
  refine HC.out.mono ?_
  rintro e w5 ⟨rfl, hb5⟩
  have HB5 := Lib.hid hb5
  have HKf5 : Hid (Blk w5 w.heap.size _ _) := HKf.out.below hb5 HKf.out.lt
  have HK5 : Hid (Blk w5 (w.heap.size + 1) _ _) := HK1.out.below hb5 HK1.out.lt
  have k1 := HKf5.out.cell 1
  have lf := HKf5.out.lt
  have lr := HK5.out.lt
  simp only [List.getElem?_toArray, List.getElem?_cons_zero, List.getElem?_cons_succ] at k1
  have hb15 : Below w.heap.size w w5 := HB1.out.trans (hb5.mono HB1.out.size)
  have lw1 := HK1.out.lt
  have lw5 := hb5.size
  have hfv := HFv.out w5 hb15
  obtain ⟨_, _, _, ev, hgls, -, -⟩ := id hfv
  injection ev with ev
  have hin0 := sbW_in F (fun b => ok b ∧ b < w.heap.size) w5 w.heap.size (.slice Ag N cg) k1 lf (by
    simp only [Array.mk.injEq, List.cons.injEq] at ev
    rw [ev.2.1]; exact hgls)
  rw [HNN.out] at hin0
  have hrow0 := sbW_row w5 N w.heap.size
  have hsz6 := sbW_size w5 N w.heap.size
  have hbl6 := sbW_below w5 N w.heap.size
  have HAll : Hid (∀ w', FrX (sbW w5 N w.heap.size).heap.size w5.heap.size (sbW w5 N w.heap.size) w' → NdIn F (fun b => ok b ∧ b < w.heap.size) w5.heap.size (w5.heap.size + 1) w.heap.size (w5.heap.size + 1 + 1) (.slice Ag N cg) w' ∧ Blk w' w.heap.size 26 #[.int .i64 F.unit, .slice Ag N cg, .slice Am F.map.length cm, .slice Ak F.kern.length ck] ∧ Blk w' (w.heap.size + 1) 26 #[.int .i64 0, .slice none 0 0, .slice none 0 0, .slice none 0 0] ∧ Below w.heap.size w w' ∧ Below w5.heap.size w5 w') := fun w' h => by
    have hb' : Below w5.heap.size w5 w' := hbl6.trans (h.below (B := w5.heap.size) (by omega) (by omega))
    exact ⟨hin0.frx h (Nat.le_refl _) (by omega) (by omega) (by omega) (fun e => by omega), HKf5.out.below hb' lf, HK5.out.below hb' lr, hb15.trans (hb'.mono (by omega)), hb'⟩
  have HNd := Lib.hid (need_any F HFk.out (fun b => ok b ∧ b < w.heap.size) w5.heap.size (w5.heap.size + 1) w.heap.size (w5.heap.size + 1 + 1) (.slice Ag N cg) (fun e => by omega) (by omega) (by omega) (by omega))
  have HNd0 := Lib.hid (HNd.out 5 0 (List.replicate N false) (sbW w5 N w.heap.size) hin0 hrow0 (by rw [List.length_replicate, HNN.out]) (by rw [HNN.out]; omega) (rk_facts HFk.out 0 (by rw [HNN.out]; omega)).1)
  rw [hsz6] at HAll
  unfold NdPost at HNd HNd0
  clear hb5 hb15 hfv hgls ev hin0 hrow0 hbl6
  go_wp2_with fail
  refine HNd0.out.mono ?_
  rintro e w7 ⟨rfl, hr7, hf7⟩
  rw [hsz6] at hf7
  have HR7 := Lib.hid hr7
  have HF7 := Lib.hid hf7
  clear hr7 hf7
  have HCl7 := Lib.hid (clone_own (.slice Ac n cc) codes w7 okc (HCd.out.later (HAll.out _ HF7.out).2.2.2.1) (by rw [HCl.out]; omega))
  have l7 : w5.heap.size + 3 ≤ w7.heap.size := by rw [← hsz6]; exact HF7.out.size
  unfold ClonePost at HCl7
  go_wp2_with fail
  refine HCl7.out.mono ?_
  rintro e w8 ⟨v8, rfl, ho8, hb8⟩
  have HF8 := Lib.hid (HF7.out.trans (FrX.of_below (R := w5.heap.size + 3) (b := w5.heap.size) hb8 l7))
  have HR8 := Lib.hid (HR7.out.below hb8 HR7.out.lt)
  have HV8 : Hid (∀ k, v8.ownBlock = some k → w5.heap.size + 3 ≤ k) := fun k hk => Nat.le_trans l7 (own_lt ho8 k hk).1
  have HS8 := Lib.hid (sort_any w7.heap.size v8 codes w8 (by rw [HCl.out]; rw [HCl.out] at ho8; exact ho8) (by rw [HCl.out]; omega))
  have l8 : w5.heap.size + 3 ≤ w8.heap.size := Nat.le_trans l7 hb8.size
  unfold SortPost at HS8
  clear ho8 hb8
  go_wp2_with fail
  refine HS8.out.mono ?_
  rintro e w9 ⟨rfl, ho9, hg9⟩
  have HF9 := Lib.hid (HF8.out.trans (FrX.of_grown (R := w5.heap.size + 3) (b := w5.heap.size) hg9 l8 HV8.out))
  have HR9 := Lib.hid (HR8.out.grown hg9 fun e => by have := HV8.out _ e.symm; omega)
  have l9 : w5.heap.size + 3 ≤ w9.heap.size := Nat.le_trans l8 hg9.size
  have HC9 := Lib.hid (compact_any w7.heap.size v8 (codes.mergeSort fun x y => decide (x ≤ y)) w9 (by rw [List.length_mergeSort]; exact ho9) (by rw [List.length_mergeSort, HCl.out]; omega))
  clear ho9 hg9
  go_wp2_with fail
  refine HC9.out.mono ?_
  rintro e w10 ⟨v10, rfl, hv10, ho10, hg10⟩
  have HF10 := Lib.hid (HF9.out.trans (FrX.of_grown (R := w5.heap.size + 3) (b := w5.heap.size) hg10 l9 HV8.out))
  have HR10 := Lib.hid (HR9.out.grown hg10 fun e => by have := HV8.out _ e.symm; omega)
  have HV10 : Hid (∀ k, v10.ownBlock = some k → w5.heap.size + 3 ≤ k) := fun k hk => HV8.out k (hv10 ▸ hk)
  have l10 : w5.heap.size + 3 ≤ w10.heap.size := Nat.le_trans l9 hg10.size
  have hso : Lib.compact (codes.mergeSort fun x y => decide (x ≤ y)) = sorted codes := rfl
  rw [hso] at ho10
  have HD10 := Lib.hid (delete_int w7.heap.size v10 w.heap.size (fun c => decide (find F c = 0)) (sorted codes) w10 ho10 (by
      have := compact_le (codes.mergeSort fun x y => decide (x ≤ y))
      rw [hso, List.length_mergeSort, HCl.out] at this
      omega) fun c w' hg => by
    have hf' : FrX (w5.heap.size + 3) w5.heap.size (sbW w5 N w.heap.size) w' := HF10.out.trans (FrX.of_grown hg l10 HV10.out)
    obtain ⟨_, hbf, _, hbl, _⟩ := HAll.out w' hf'
    exact zero_any F HFk.out c w.heap.size F.unit Ag Am Ak cg cm ck N F.map.length F.kern.length _ w' hbf (HFv.out w' hbl))
  clear ho10 hg10 hv10 hso
  go_wp2_with fail
  refine HD10.out.mono ?_
  rintro e w11 ⟨v11, rfl, hv11, ho11, hg11⟩
  have HF11 := Lib.hid (HF10.out.trans (FrX.of_grown (R := w5.heap.size + 3) (b := w5.heap.size) hg11 l10 HV10.out))
  have HR11 := Lib.hid (HR10.out.grown hg11 fun e => by have := HV10.out _ e.symm; omega)
  have l11 : w5.heap.size + 3 ≤ w11.heap.size := Nat.le_trans l10 hg11.size
  have HV11 : Hid (∀ k, v11.ownBlock = some k → w5.heap.size + 3 ≤ k) := fun k hk => HV10.out k (hv11 ▸ hk)
  have HCs : Hid (Cs F codes ((sorted codes).filter fun c => !decide (find F c = 0))) := by
    obtain ⟨a, b⟩ := sorted_facts codes
    refine ⟨a.filter _, fun c => ?_⟩
    rw [List.mem_filter, b c]
    simp
  have hcs : ((sorted codes).filter fun c => !decide (find F c = 0)).length ≤ 1024 := by
    have h1 := compact_le (codes.mergeSort fun x y => decide (x ≤ y))
    rw [List.length_mergeSort, HCl.out] at h1
    have h2 := List.length_filter_le (fun c => !decide (find F c = 0)) (sorted codes)
    unfold sorted at h2 ⊢
    omega
  generalize ((sorted codes).filter fun c => !decide (find F c = 0)) = cs at *
  have HS11 := Lib.hid ((SlM.of_own ho11).mono (ok' := fun b => b ≠ w5.heap.size) fun b _ hb => fun e => by have := HV11.out b hb.1.symm; omega)
  obtain ⟨A11, c11, ev⟩ := SlM.form HS11.out
  subst ev
  have hc11 := (SlM.caps HS11.out).2
  unfold maxLen at hc11
  obtain ⟨hc11a, hc11b⟩ := hc11
  have HAl2 : Hid (∀ w', FrX w11.heap.size w5.heap.size w11 w' → FrX (w5.heap.size + 3) w5.heap.size (sbW w5 N w.heap.size) w' ∧ SlM w' (fun b => b ≠ w5.heap.size) (.slice A11 cs.length c11) cs.length (ints cs)) := fun w' h =>
    ⟨HF11.out.trans (h.mono l11), HS11.out.keep h.size fun b hb hl => h.block b hl hb⟩
  clear ho11 hg11 hv11 l7 l8 l9 l10 HF7 HF8 HF9 HF10 HR7 HR8 HR9 HR10 HV8 HV10 HV11 HCl7 HS8 HC9 HD10 HNd0
  generalize hcn : cs.length = m at *
  have HCn := Lib.hid hcn
  clear hcn
  go_wp2
  go_loopw [11, 58] (fun _ vi wq => True ∧ ∃ i : Nat, i ≤ m ∧ vi = .int .i64 i ∧ Row wq w5.heap.size (bools (keepOf F (cs.take i))) ∧ FrX w11.heap.size w5.heap.size w11 wq) (fun _ i _ => m - (intOf i).toNat)
  case atStart => exact ⟨trivial, 0, by omega, rfl, by rw [List.take_zero]; unfold keepOf; rw [List.foldl_nil, HNN.out]; exact HR11.out, FrX.refl _ _ _⟩
  case round =>
    obtain ⟨_, i, hi, rfl, hr, hf⟩ := hrel
    have HR := Lib.hid hr
    have HFr := Lib.hid hf
    clear hr hf
    by_cases hlt : i < m
    · obtain ⟨hfx, hsl⟩ := HAl2.out _ HFr.out
      obtain ⟨hnd, hbf, _, hbl, _⟩ := HAll.out _ hfx
      obtain ⟨b, off, ea, _, lb, hcc⟩ := SlM.addr hsl (by omega)
      subst ea
      have d0 := hcc i _ (ints_get (by rw [HCn.out]; exact hlt))
      have n0 := hnd.n
      have nl := hnd.nl
      have b0 := hbf.cell 0
      have b1 := hbf.cell 1
      have b2 := hbf.cell 2
      have b3 := hbf.cell 3
      simp only [List.getElem?_toArray, List.getElem?_cons_zero, List.getElem?_cons_succ] at b0 b1 b2 b3
      have lfw := hbf.lt
      have hfn := find_nat HFk.out (cs.getD i 0)
      have HFd := Lib.hid (fun W hb => find_any F (cs.getD i 0) _ _ W (HFv.out W hb) (by have := HFk.out.m1; omega) HFk.out.rg (by have := HFk.out.n1; omega))
      have hks := keep_spec HFk.out (cs.take i)
      have HN5 := Lib.hid (fun W hin hr => HNd.out 5 (find F (cs.getD i 0)).toNat (keepOf F (cs.take i)) W hin hr hks.1 hfn.2 (rk_facts HFk.out _ hfn.2).1)
      rw [hfn.1] at HN5
      have lr2 := hnd.nl
      have HSF : Hid (∀ w' : World, FrX w11.heap.size w5.heap.size w11 w' → w'.cell? ⟨w5.heap.size + 1 + 1, 0, none⟩ = some (.func (.func 45) #[] #[.pointer (some ⟨w5.heap.size + 1, 0, none⟩), .pointer (some ⟨w.heap.size, 0, none⟩), .pointer (some ⟨w5.heap.size + 1 + 1, 0, none⟩)]) ∧ w'.cell? ⟨w.heap.size, 0, none⟩ = some (.int .i64 F.unit) ∧ w'.cell? ⟨w.heap.size, 1, none⟩ = some (.slice Ag N cg) ∧ w'.cell? ⟨w.heap.size, 2, none⟩ = some (.slice Am F.map.length cm) ∧ w'.cell? ⟨w.heap.size, 3, none⟩ = some (.slice Ak F.kern.length ck) ∧ FrX w11.heap.size w5.heap.size w11 w') := fun w' h => by
        obtain ⟨hnd, hbf, _, _, _⟩ := HAll.out _ (HAl2.out _ h).1
        exact ⟨hnd.n, by rw [hbf.cell]; rfl, by rw [hbf.cell]; rfl, by rw [hbf.cell]; rfl, by rw [hbf.cell]; rfl, h⟩
      have HKB : Hid (∀ w' w'' : World, FrX w11.heap.size w5.heap.size w11 w' → Below w'.heap.size w' w'' → FrX w11.heap.size w5.heap.size w11 w'') := fun w' w'' h hb => h.trans (FrX.of_below hb h.size)
      have hS0 := HSF.out wr.drew HFr.out.drew
      have hfd : FrX w11.heap.size w5.heap.size w11 wr.drew := HFr.out.drew
      clear hnd hbf hbl hfx hsl hcc hks
      go_wp2_with fail
      go_region_held3 (fun w' => w'.cell? ⟨w5.heap.size + 1 + 1, 0, none⟩ = some (.func (.func 45) #[] #[.pointer (some ⟨w5.heap.size + 1, 0, none⟩), .pointer (some ⟨w.heap.size, 0, none⟩), .pointer (some ⟨w5.heap.size + 1 + 1, 0, none⟩)]) ∧ w'.cell? ⟨w.heap.size, 0, none⟩ = some (.int .i64 F.unit) ∧ w'.cell? ⟨w.heap.size, 1, none⟩ = some (.slice Ag N cg) ∧ w'.cell? ⟨w.heap.size, 2, none⟩ = some (.slice Am F.map.length cm) ∧ w'.cell? ⟨w.heap.size, 3, none⟩ = some (.slice Ak F.kern.length ck) ∧ FrX w11.heap.size w5.heap.size w11 w')
        (first | exact hS0 | (exact HSF.out _ (HKB.out _ _ hfd (by assumption))) | (exact HSF.out _ (FrX.trans (HKB.out _ _ hfd (by assumption)) (FrX.mono (by assumption) (HKB.out _ _ hfd (by assumption)).size))))
        (first | (go_at_call 34; refine (HFd.out _ (HAll.out _ (HAl2.out _ hfd).1).2.2.2.1).mono ?_; rintro e w12 ⟨rfl, hb12⟩) | (go_at_call 45; refine (HN5.out _ (HAll.out _ (HAl2.out _ (HKB.out _ _ hfd hb12)).1).1 (HR.out.drew.below hb12 HR.out.lt)).mono ?_; rintro e w13 ⟨rfl, hr13, hf13⟩))
      have HF13 := Lib.hid ((HKB.out _ _ hfd hb12).trans (hf13.mono (HKB.out _ _ hfd hb12).size))
      have HR13 := Lib.hid hr13
      have hkn := keep_next F cs i (by rw [HCn.out]; exact hlt)
      rw [← hkn] at HR13
      clear hr13 hf13 hb12 hfd hS0 hkn b0 b1 b2 b3 n0 d0
      go_wp2
      go_roundw
      case rel => exact ⟨trivial, i + 1, by omega, by go_num, HR13.out, HF13.out⟩
      case measure => simp [intOf]; omega
    · obtain rfl : m = i := by omega
      obtain ⟨wx, rfl⟩ : ∃ x, x = wr := ⟨_, rfl⟩
      rw [List.take_of_length_le (by rw [HCn.out]; exact Nat.le_refl _)] at HR
      obtain ⟨hfx, -⟩ := HAl2.out _ HFr.out
      obtain ⟨hnd, hbf, -, -, -⟩ := HAll.out _ hfx
      have b0 := hbf.cell 0
      have b1 := hbf.cell 1
      simp only [List.getElem?_toArray, List.getElem?_cons_zero, List.getElem?_cons_succ] at b0 b1
      have lfw := hbf.lt
      have nk := hnd.k
      rw [HNN.out] at nk
      have lk := hnd.kl
      have lk2 : w5.heap.size < wx.heap.size := by omega
      have hmi := fun w => run_mk (P := Tryd.prog) eIn rfl N (by omega) (by omega) N rfl w
      clear hfx hnd hbf
      have lfr := HFr.out.size
      have hf14 := (HFr.out.alloc (Nat.le_refl _) (.cells #[.int .i64 F.unit, .slice none 0 0, .slice none 0 0, .slice none 0 0] 26)).alloc (Nat.le_refl _) (.cells (Array.replicate N (.int .i64 0)) 3)
      have hr14 := (HR.out.alloc (.cells #[.int .i64 F.unit, .slice none 0 0, .slice none 0 0, .slice none 0 0] 26)).alloc (.cells (Array.replicate N (.int .i64 0)) 3)
      have hbo := (Blk.new wx 26 #[.int .i64 F.unit, .slice none 0 0, .slice none 0 0, .slice none 0 0]).alloc (.cells (Array.replicate N (.int .i64 0)) 3)
      have hnb := (Blk.new (wx.alloc (.cells #[.int .i64 F.unit, .slice none 0 0, .slice none 0 0, .slice none 0 0] 26)) 3 (Array.replicate N (.int .i64 0))).row
      rw [show (wx.alloc (.cells #[.int .i64 F.unit, .slice none 0 0, .slice none 0 0, .slice none 0 0] 26)).heap.size = wx.heap.size + 1 by simp, Array.toList_replicate, show List.replicate N (Value.int .i64 0) = ints (numTo (keepOf F cs) N 0) by rw [numTo_zero]; unfold ints; rw [List.map_replicate]] at hnb
      have hs14 : ((wx.alloc (.cells #[.int .i64 F.unit, .slice none 0 0, .slice none 0 0, .slice none 0 0] 26)).alloc (.cells (Array.replicate N (.int .i64 0)) 3)).heap.size = wx.heap.size + 2 := by simp
      have HF14 := Lib.hid hf14
      have HR14 := Lib.hid hr14
      have HBo := Lib.hid hbo
      have HNb := Lib.hid hnb
      have HS14 := Lib.hid hs14
      clear hf14 hr14 hbo hnb hs14
      go_wp2
      generalize hw14 : (wx.alloc (.cells #[.int .i64 F.unit, .slice none 0 0, .slice none 0 0, .slice none 0 0] 26)).alloc (.cells (Array.replicate N (.int .i64 0)) 3) = w14 at *
      go_loopw [13, 15, 16, 77] (fun v13 _ _ vi wq => True ∧ ∃ i : Nat, i ≤ N ∧ vi = .int .i64 i ∧ wq.ownsRow (wx.heap.size + 2) 3 1 v13 (keptTo (keepOf F cs) i).length (ints ((keptTo (keepOf F cs) i).map Int.ofNat)) ∧ Row wq (wx.heap.size + 1) (ints (numTo (keepOf F cs) N i)) ∧ FrX w14.heap.size (wx.heap.size + 1) w14 wq) (fun _ _ _ i _ => N - (intOf i).toNat)
      case atStart => exact ⟨trivial, 0, by omega, rfl, World.ownsRow_nil _ _ _ _, HNb.out, FrX.refl _ _ _⟩
      case round =>
        obtain ⟨_, i, hi, rfl, ho, hn, hf⟩ := hrel
        have HO := Lib.hid ho
        have HN2 := Lib.hid hn
        have HFr2 := Lib.hid hf
        have hkl : (keepOf F cs).length = N := (keep_spec HFk.out cs).1.trans HNN.out
        have HKl := Lib.hid hkl
        have hsz14 := HS14.out
        have HFx : Hid (FrX w11.heap.size w5.heap.size w11 wr) := HF14.out.trans (hf.other (by omega) (by omega))
        have hle := keptTo_len (keepOf F cs) i
        clear hn hf
        by_cases hlt : i < N
        · have c0 : wr.cell? ⟨w5.heap.size, i, none⟩ = some (.bool (ktp (keepOf F cs) i)) := (HFr2.out.cell (by omega) (by omega) i).trans (HR14.out.cell i _ (by unfold bools ktp; rw [List.getElem?_map, List.getD_eq_getElem?_getD, List.getElem?_eq_getElem (by omega)]; rfl))
          have lkr : w5.heap.size < wr.heap.size := by have := HFr2.out.size; omega
          obtain ⟨Ao, co, eo⟩ := own_form ho
          subst eo
          clear ho hkl
          cases hk : ktp (keepOf F cs) i
          case false =>
            rw [hk] at c0
            have HK0 := Lib.hid hk
            clear hk
            go_wp2
            go_roundw
            case rel => exact ⟨trivial, i + 1, by omega, by go_num, by rw [keptTo_same _ _ HK0.out]; exact HO.out, by rw [numTo_skip _ _ _ HK0.out]; exact HN2.out, HFr2.out⟩
            case measure => simp [intOf]; omega
          case true =>
            rw [hk] at c0
            have HK0 := Lib.hid hk
            have hn1 := HN2.out.put (k := i) (by rw [ints_length]; unfold numTo; simpa using hlt) (.int .i64 ((keptTo (keepOf F cs) i).length : Int))
            rw [numTo_set _ N i hlt hk] at hn1
            have hO1 := own_setCell HO.out (p := ⟨wx.heap.size + 1, i, none⟩) (.inl (by show wx.heap.size + 1 < wx.heap.size + 2; omega)) (.int .i64 ((keptTo (keepOf F cs) i).length : Int))
            have n0 := HN2.out.cell i _ (ints_get (by unfold numTo; simpa using hlt))
            have f0 := HN2.out.free i (by rw [ints_length]; unfold numTo; simpa using hlt)
            have ln := HN2.out.lt
            have HN1 := Lib.hid hn1
            have HO1 := Lib.hid hO1
            have HF1 := Lib.hid (HFr2.out.trans (FrX.set _ _ wr i (.int .i64 ((keptTo (keepOf F cs) i).length : Int))))
            clear hk hn1 hO1
            have hnew : ((wr.setCell ⟨wx.heap.size + 1, i, none⟩ (.int .i64 ((keptTo (keepOf F cs) i).length : Int))).alloc (.cells #[.int .i64 i] 3)).cell? ⟨wr.heap.size, 0, none⟩ = some (.int .i64 i) := by
              have := new_one (wr.setCell ⟨wx.heap.size + 1, i, none⟩ (.int .i64 ((keptTo (keepOf F cs) i).length : Int))) (.int .i64 i) 3
              rwa [show (wr.setCell ⟨wx.heap.size + 1, i, none⟩ (.int .i64 ((keptTo (keepOf F cs) i).length : Int))).heap.size = wr.heap.size by simp [World.setCell]] at this
            have HNew := Lib.hid hnew
            have hszs : Hid ((wr.setCell ⟨wx.heap.size + 1, i, none⟩ (.int .i64 ((keptTo (keepOf F cs) i).length : Int))).heap.size = wr.heap.size) := by unfold Hid; simp [World.setCell]
            clear hnew
            go_wp2_with (at_builtin; go_must (refine wpList_push eIn rfl (.tmp 88) (.tmp 90) rfl (wx.heap.size + 2) (.slice Ao (keptTo (keepOf F cs) i).length co) (keptTo (keepOf F cs) i).length _ rfl (HO1.out.alloc _) ⟨wr.heap.size, 0, none⟩ 1 (.int .i64 i) rfl HNew.out rfl (by omega) (by omega) (by simp [World.setCell]; omega) ?_); go_must (intro v' w15 hown15 hgr15 _; have HO15 := Lib.hid hown15; have HG15 := Lib.hid hgr15; clear hown15 hgr15))
            have HF15 := Lib.hid ((HF1.out.alloc (by have := HFr2.out.size; have := hszs.out; omega) (.cells #[.int .i64 i] 3)).trans (FrX.of_grown HG15.out (by have := HFr2.out.size; have := hszs.out; simp; omega) fun k hk => by have := (own_lt HO1.out k hk).1; omega))
            have HN15 := Lib.hid ((HN1.out.alloc (.cells #[.int .i64 i] 3)).grown HG15.out fun e => by have := (own_lt HO1.out _ e.symm).1; omega)
            go_roundw
            case rel => exact ⟨trivial, i + 1, by omega, by go_num, by
              rw [keptTo_next _ _ HK0.out, keptTo_succ, if_pos HK0.out, List.length_append, List.length_singleton]
              have := HO15.out
              unfold ints at this ⊢
              rw [List.map_append]; exact this, HN15.out, HF15.out⟩
            case measure => simp [intOf]; omega
        · obtain rfl : N = i := by omega
          obtain ⟨wy, rfl⟩ : ∃ x, x = wr := ⟨_, rfl⟩
          obtain ⟨Ao, co, eo⟩ := own_form ho
          subst eo
          have hsy := HFr2.out.size
          have HHx : Hid (∀ w', FrS wy.heap.size (fun k => k = wx.heap.size) wy w' →
              w'.cell? ⟨w5.heap.size + 1, 0, none⟩ = some (.slice (some ⟨w5.heap.size, 0, none⟩) N N) ∧
              Blk w' w.heap.size 26 #[.int .i64 F.unit, .slice Ag N cg, .slice Am F.map.length cm, .slice Ak F.kern.length ck] ∧
              Blk w' (w.heap.size + 1) 26 #[.int .i64 0, .slice none 0 0, .slice none 0 0, .slice none 0 0] ∧
              Below w.heap.size w w' ∧ SlM w' (fun b => b ≠ w5.heap.size) (.slice A11 m c11) m (ints cs) ∧
              SlM w' (fun b => wx.heap.size + 2 ≤ b) (.slice Ao (keptTo (keepOf F cs) N).length co) (keptTo (keepOf F cs) N).length (ints ((keptTo (keepOf F cs) N).map Int.ofNat)) ∧
              Row w' w5.heap.size (bools (keepOf F cs)) ∧ Row w' (wx.heap.size + 1) (ints (numTo (keepOf F cs) N N))) := fun w' h => by
            have hfx : FrX w11.heap.size w5.heap.size w11 w' := HFx.out.trans ⟨h.os, h.tape, h.output, h.size, fun k hk _ => h.block k (by omega) (by omega)⟩
            obtain ⟨hx, hcd⟩ := HAl2.out w' hfx
            obtain ⟨hnd, hbf, hbr, hbl, _⟩ := HAll.out w' hx
            have hk := hnd.k
            rw [HNN.out] at hk
            have hs := h.size
            refine ⟨hk, hbf, hbr, hbl, hcd, ((SlM.of_own HO.out).mono (ok' := fun b => wx.heap.size + 2 ≤ b) fun b _ hb => hb.2).keep h.size fun b hb hl => h.block b hl (by omega), ?_, ?_⟩
            · exact HR14.out.keep (by omega) ((h.block _ (by omega) (by omega)).trans (HFr2.out.block _ (by omega) (by omega)))
            · exact HN2.out.keep (by omega) (h.block _ (by omega) (by omega))
          have hbo := HBo.out
          have HBy : Hid (Blk wy wx.heap.size 26 #[.int .i64 F.unit, .slice none 0 0, .slice none 0 0, .slice none 0 0]) := hbo.frx HFr2.out (by omega) (by omega)
          have hnf : ∀ i, i < (keptTo (keepOf F cs) N).length → ktp (keepOf F cs) ((keptTo (keepOf F cs) N).getD i 0) = true ∧ (keptTo (keepOf F cs) N).getD i 0 < N := fun i hi => by
            obtain ⟨a, b, _⟩ := keptTo_of (keepOf F cs) N i ((keptTo (keepOf F cs) N).getD i 0) (by rw [List.getD_eq_getElem?_getD, List.getElem?_eq_getElem hi]; rfl)
            exact ⟨a, b⟩
          have HOf := Lib.hid hnf
          have HOe : Hid (oldOf (keepOf F cs) = keptTo (keepOf F cs) N) := by unfold Hid oldOf; rw [hkl]
          clear hnf hbo hw14 nk b0 b1 HO HN2 HFr2 HFx HAl2 HAll HNd HR14 HF14 HBo HNb HS11 HF11 HR11 HKf5 HK5 HR HFr hmi ho
          generalize keptTo (keepOf F cs) N = old at *
          generalize hKK : keepOf F cs = K at *
          have HKK := Lib.hid hKK
          clear hKK
          generalize hno : old.length = no at *
          have HNo := Lib.hid hno
          clear hno
          go_wp2
          go_loopw [18, 19, 21, 23, 95, 113, 132] (fun _ _ _ _ vi _ _ wq => True ∧ ∃ (i : Nat) (L : List GlB) (gv : Value), i ≤ no ∧ vi = .int .i64 i ∧ L.length = i ∧ L.map (·.1) = (old.take i).map (fun g => newGl K (gl F g)) ∧
            Blk wq wx.heap.size 26 #[.int .i64 F.unit, gv, .slice none 0 0, .slice none 0 0] ∧ GlR wq wy.heap.size gv L ∧ FrS wy.heap.size (fun k => k = wx.heap.size) wy wq) (fun _ _ _ _ i _ _ _ => no - (intOf i).toNat)
          case atStart => exact ⟨trivial, 0, [], .slice none 0 0, by omega, rfl, rfl, by simp, HBy.out, GlR.nil _ _, FrS.refl _ _ _⟩
          case round =>
            obtain ⟨_, i, L, gv, hi, rfl, hLi, hLm, hgk, hgr, hfr⟩ := hrel
            obtain ⟨Agv, cgv, egv⟩ := own_form hgr.1
            subst egv
            have HGk := Lib.hid hgk
            have HGr := Lib.hid hgr
            have HFr := Lib.hid hfr
            have HLm := Lib.hid hLm
            have HLi := Lib.hid hLi
            clear hLi
            have hsr := hfr.size
            have hHr := HHx.out _ hfr
            by_cases hlt : i < no
            · obtain ⟨hkb, hbf, -, hbl, -, hol, -, -⟩ := hHr
              have hg := HOf.out i hlt
              have hbf' := Lib.hid hbf
              obtain ⟨bo, oo, eo, -, lbo, hoc⟩ := SlM.addr hol (by omega)
              subst eo
              have o0 := hoc i _ (onat (by rw [HNo.out]; exact hlt))
              have HTk : Hid (old.take (i + 1) = old.take i ++ [old.getD i 0]) := Fnt.take_next old i 0 (by rw [HNo.out]; exact hlt)
              generalize old.getD i 0 = g at *
              obtain ⟨vg, vm, vk, ev, hgls, -, -⟩ := HFv.out _ hbl
              injection ev with ev
              simp only [Array.mk.injEq, List.cons.injEq, and_true] at ev
              obtain ⟨-, ev, -, -⟩ := ev
              subst ev
              obtain ⟨bg, og, capg, vs, eg, hokg, lbg, -, -, hgc⟩ := Gls.cells hgls (by rw [HNN.out]; omega)
              injection eg with eg1 eg2 eg3
              subst eg1 eg3
              clear eg2
              obtain ⟨g0, g1, g2, hcs, hps⟩ := hgc g (by rw [HNN.out]; exact hg.2)
              have hgd : F.gs.getD g default = gl F g := rfl
              rw [hgd] at g0 hcs hps
              have hgo := HFk.out.gl g (by rw [HNN.out]; exact hg.2)
              have HGE : Hid (newGl K (gl F g) = ⟨(gl F g).adv, (gl F g).cs, (gl F g).ps.map (newPa K)⟩) := rfl
              have HPr := Lib.hid (HFk.out.parts g)
              have hcn := hgo.cs
              have hpn := hgo.ps
              have HCo := Lib.hid hgo.con
              generalize hGG : gl F g = G at *
              have HGe := Lib.hid hGG
              clear hGG
              obtain ⟨adv, gcs, gps⟩ := G
              dsimp only at g0 hcs hps hcn hpn HCo HPr HGE
              generalize (vs g).1 = vcs at *
              generalize (vs g).2 = vps at *
              obtain ⟨Acs, ccs, ecs, hc1, hc2⟩ := hcs.form
              obtain ⟨Aps, cps, eps, hp1, hp2⟩ := hps.form
              subst ecs eps
              have HCs := Lib.hid hcs
              have HPs := Lib.hid hps
              generalize hnc : gcs.length = nc at *
              generalize hnp : gps.length = np at *
              have HNc := Lib.hid hnc
              have HNp := Lib.hid hnp
              have b1 := hbf.cell 1
              simp only [List.getElem?_toArray, List.getElem?_cons_zero, List.getElem?_cons_succ] at b1
              clear hnc hnp hcs hps hgo hgc hgls hol hbf hkb hgk hgr hfr hoc hLm hbl
              have lfr2 : w.heap.size < wr.heap.size := by omega
              obtain ⟨wv, rfl⟩ : ∃ x, x = wr := ⟨_, rfl⟩
              have hx16 := Blk.new wv 84 #[.int .i64 adv, .slice none 0 0, .slice none 0 0]
              have hf16 := (FrS.refl wv.heap.size (fun _ => False) wv).alloc (Nat.le_refl _) (.cells #[.int .i64 adv, .slice none 0 0, .slice none 0 0] 84)
              have hs16 : Hid ((wv.alloc (.cells #[.int .i64 adv, .slice none 0 0, .slice none 0 0] 84)).heap.size = wv.heap.size + 1) := by unfold Hid; simp
              have HX16 := Lib.hid hx16
              have HF16 := Lib.hid hf16
              clear hx16 hf16
              go_wp2_with fail
              generalize hw16 : wv.alloc (.cells #[.int .i64 adv, .slice none 0 0, .slice none 0 0] 84) = w16 at *
              have HW16 := Lib.hid hw16
              clear hw16
              have hs16' := hs16.out
              go_loopw [21, 113] (fun _ vj wq => True ∧ ∃ (j : Nat) (cv : Value), j ≤ nc ∧ vj = .int .i64 j ∧
                Blk wq wv.heap.size 84 #[.int .i64 adv, cv, .slice none 0 0] ∧ ConR wq w16.heap.size cv (gcs.take j) ∧ FrS w16.heap.size (fun k => k = wv.heap.size) w16 wq) (fun _ j _ => nc - (intOf j).toNat)
              case atStart => exact ⟨trivial, 0, .slice none 0 0, by omega, rfl, HX16.out, ConR.nil _ _, FrS.refl _ _ _⟩
              case round =>
                obtain ⟨-, j, cv, hj, rfl, hxk, hcr, hfq⟩ := hrel
                have HCr := Lib.hid hcr
                obtain ⟨vals, hco, hcp⟩ := hcr
                have hjl : (gcs.take j).length = j := by rw [List.length_take, HNc.out]; omega
                rw [hjl] at hco
                obtain ⟨Acv, ccv, ecv⟩ := own_form hco
                subst ecv
                have HXk := Lib.hid hxk
                have HFq := Lib.hid hfq
                have hsq := hfq.size
                have hkeep : Hid (∀ b, b < wv.heap.size → wr.heap[b]? = wv.heap[b]?) := fun b hb => (hfq.block b (by omega) (by omega)).trans (HF16.out.block b hb fun h => h)
                have HCo2 := Lib.hid hco
                have HCp := Lib.hid hcp
                by_cases hlt2 : j < nc
                · obtain ⟨bc, oc, capc, us, ec, hokc, lbc, -, -, hcc⟩ := Cons.cells HCs.out (by rw [HNc.out]; omega)
                  injection ec with e1 e2 e3
                  subst e1 e3
                  clear e2
                  obtain ⟨q0, hqp⟩ := hcc j (by rw [HNc.out]; exact hlt2)
                  replace q0 := (World.cell?_of_block (w := wv) (w' := wr) (a := ⟨bc, oc + j, none⟩) (hkeep.out bc lbc)).trans q0
                  replace hqp : Pts wr (fun b => ok b ∧ b < w.heap.size) (us j) (gcs.getD j []) := hqp.keep (by omega) fun b _ hl => hkeep.out b hl
                  have lbc' : bc < wr.heap.size := by omega
                  have hmem : gcs.getD j [] ∈ gcs := by rw [List.getD_eq_getElem?_getD, List.getElem?_eq_getElem (by rw [HNc.out]; exact hlt2)]; exact List.getElem_mem _
                  have hcl : (gcs.getD j []).length ≤ 32 := by
                    have := HCo.out _ hmem
                    unfold contourE at this
                    split at this
                    · omega
                    split at this
                    · omega
                    split at this
                    · omega
                    · omega
                  have HTj : Hid (gcs.take (j + 1) = gcs.take j ++ [gcs.getD j []]) := Fnt.take_next gcs j [] (by rw [HNc.out]; exact hlt2)
                  obtain ⟨Au, cu, eu⟩ := SlM.form hqp
                  generalize us j = uj at *
                  subst eu
                  generalize gcs.getD j [] = c at *
                  have HCl := Lib.hid fun W (h : Pts W (fun b => ok b ∧ b < w.heap.size) (.slice Au c.length cu) c) => clone_pts _ _ _ W h (by omega)
                  have HQp := Lib.hid hqp
                  have lxr : wv.heap.size < wr.heap.size := by omega
                  have x1 := hxk.cell 1
                  have x1f := hxk.frozen 1
                  simp only [List.getElem?_toArray, List.getElem?_cons_zero, List.getElem?_cons_succ] at x1
                  have hS0 : (fun w' : World => w'.cell? ⟨wv.heap.size, 1, none⟩ = some (.slice Acv j ccv)) wr.drew := x1
                  clear hcc hqp hmem hcl hxk hfq hco hcp hjl
                  go_wp2_with fail
                  refine wp_region_tail (fun w' => w'.cell? ⟨wv.heap.size, 1, none⟩ = some (.slice Acv j ccv)) 5 (by kernel_rfl) (by kernel_rfl) hS0 (fun hHeld => ?_)
                  refine wpAnyD_take 0 (v := ?_) rfl (by kernel_rfl) (by kernel_rfl) (by kernel_rfl) (fun _ _ _ h => h) hHeld (Or.inl ⟨by rfl, ?_⟩) ?_
                  rotate_left
                  · intro w' hw'; go_simp; try with_reducible rfl
                  try simp only [Act.put, List.setIfInBounds_toArray, List.set_cons_zero, List.set_cons_succ]
                  refine wpAnyD_take 1 (v := ?_) rfl (by kernel_rfl) (by kernel_rfl) (by kernel_rfl) (fun _ _ _ h => h) hHeld (Or.inl ⟨by rfl, ?_⟩) ?_
                  rotate_left
                  · intro w' hw'; go_simp; try with_reducible rfl
                  try simp only [Act.put, List.setIfInBounds_toArray, List.set_cons_zero, List.set_cons_succ]
                  refine wpAnyD_take 2 (v := ?_) rfl (by kernel_rfl) (by kernel_rfl) (by kernel_rfl) (fun _ _ _ h => h) hHeld (Or.inl ⟨by rfl, ?_⟩) ?_
                  rotate_left
                  · intro w' hw'; go_simp; try with_reducible rfl
                  try simp only [Act.put, List.setIfInBounds_toArray, List.set_cons_zero, List.set_cons_succ]
                  refine wpAnyD_ready [3] (by kernel_rfl) ?_
                  refine AllReadyD.cons rfl (fun KK hKK => ?_) AllReadyD.nil
                  go_simp
                  refine (HCl.out wr.drew HQp.out).mono ?_
                  rintro e w17 ⟨v17, rfl, ho17, hb17⟩
                  replace hb17 : Below wr.heap.size wr w17 := ⟨hb17.os, hb17.tape, hb17.output, hb17.size, hb17.block⟩
                  obtain ⟨A17, c17, e17⟩ := own_form ho17
                  subst e17
                  have hx17 := HXk.out.below hb17 lxr
                  have hg17 : (fun w' : World => w'.cell? ⟨wv.heap.size, 1, none⟩ = some (.slice Acv j ccv)) w17 := (hx17.cell 1).trans rfl
                  refine hKK.out _ _ hg17 (fun hHeld => ?_)
                  refine wpAnyD_ready [4] (by kernel_rfl) ?_
                  refine AllReadyD.cons rfl (fun KK hKK => ?_) AllReadyD.nil
                  go_simp
                  have hg18 : (fun w' : World => w'.cell? ⟨wv.heap.size, 1, none⟩ = some (.slice Acv j ccv)) (w17.alloc (.cells #[.slice A17 c.length c17] 61)) := ((hx17.alloc _).cell 1).trans rfl
                  refine hKK.out _ _ hg18 (fun hHeld => ?_)
                  refine wpAnyD_done (by kernel_rfl) ?_
                  simp only [List.drop_succ_cons, List.drop_zero]
                  have hs17 := hb17.size
                  have hf17 : FrS wr.heap.size (fun _ => False) wr w17 := ⟨hb17.os, hb17.tape, hb17.output, hb17.size, fun k hk _ => hb17.block k hk⟩
                  have HF17 := Lib.hid hf17
                  have HP17 : Hid (Pts w17 (fun k => wr.heap.size ≤ k) (.slice A17 c.length c17) c) := (SlM.of_own ho17).mono fun k _ h => h.2
                  have HO17 := Lib.hid (hf17.own HCo2.out fun k hk => ⟨(own_lt HCo2.out k hk).2, fun h => h⟩)
                  have HX17 := Lib.hid hx17
                  have HOl : Hid (∀ k, (Value.slice Acv j ccv).ownBlock = some k → w16.heap.size ≤ k) := fun k hk => (own_lt HCo2.out k hk).1
                  have hs8 : w16.heap.size ≤ w17.heap.size := Nat.le_trans hsq hs17
                  clear hg17 hg18 hHeld ho17 hb17 hx17 hf17 hKK hS0
                  go_wp2_with (at_builtin; go_must (refine wpList_push eCo rfl (.tmp 118) (.tmp 121) rfl w16.heap.size (.slice Acv j ccv) j vals rfl (HO17.out.alloc _) ⟨w17.heap.size, 0, none⟩ 1 (.slice A17 c.length c17) rfl (new_one _ _ _) rfl (by omega) (by omega) (by simp; omega) ?_); go_must (intro v' w18 hown18 hgr18 hk18; have HO18 := Lib.hid hown18; have HK18 := Lib.hid hk18; have HG18 := Lib.hid hgr18; have hxk18 := ((HX17.out.alloc (.cells #[.slice A17 c.length c17] 61)).grown hgr18 (fun e => by have := HOl.out _ e.symm; omega)); have x1 := hxk18.cell 1; have x1f := hxk18.frozen 1; simp only [List.getElem?_toArray, List.getElem?_cons_zero, List.getElem?_cons_succ] at x1; obtain ⟨A18, c18, e18⟩ := own_form hown18; subst e18; have HX18 := Lib.hid (hxk18.put 1 (.slice A18 (j + 1) c18)); clear hown18 hgr18 hk18 hxk18))
                  go_roundw
                  case rel =>
                    refine ⟨trivial, j + 1, .slice A18 (j + 1) c18, by omega, by go_num, ?_, ?_, ?_⟩
                    · have := HX18.out; simpa using this
                    · rw [HTj.out]
                      have hpu := ConR.push (cs := gcs.take j) (c := c) HCp.out (by rw [List.length_take, HNc.out, Nat.min_eq_left hj]; exact HCo2.out) hsq HF17.out (fun k hk => hk.elim) HP17.out (by rw [List.length_take, HNc.out, Nat.min_eq_left hj]; exact HO18.out) HG18.out HK18.out
                      exact hpu.fr (R := w18.heap.size) (S := fun k => k = wv.heap.size) ((FrS.refl w18.heap.size (fun k => k = wv.heap.size) w18).put (p := ⟨wv.heap.size, 1, none⟩) (.inr rfl) _) (Nat.le_refl _) (fun k hk => by omega)
                    · exact (((HFq.out.trans (HF17.out.weak hsq fun k _ h => h.elim)).alloc hs8 _).grown HG18.out (Nat.le_trans hs8 (by simp)) fun k hk => .inl (HOl.out k hk)).put (p := ⟨wv.heap.size, 1, none⟩) (.inr rfl) _
                  case measure => simp [intOf]; omega
                · obtain rfl : nc = j := by omega
                  obtain ⟨wz, rfl⟩ : ∃ x, x = wr := ⟨_, rfl⟩
                  have htk : gcs.take nc = gcs := List.take_of_length_le (by rw [HNc.out]; exact Nat.le_refl _)
                  have HCc : Hid (Cons wz (fun k => w16.heap.size ≤ k) (.slice Acv nc ccv) gcs) := by have := HCr.out.cons; rwa [htk] at this
                  have b1z := (World.cell?_of_block (w := wv) (w' := wz) (a := ⟨w.heap.size, 1, none⟩) (hkeep.out _ lfr2)).trans b1
                  have g2z := (World.cell?_of_block (w := wv) (w' := wz) (a := ⟨bg, og + g * 3 + 2, none⟩) (hkeep.out _ lbg)).trans g2
                  have lz1 : w.heap.size < wz.heap.size := by omega
                  have lz2 : bg < wz.heap.size := by omega
                  have HFz : Hid (FrS wv.heap.size (fun _ => False) wv wz) := HF16.out.trans (hfq.weak (by omega) fun k hk h => by omega)
                  clear hxk hfq hco hcp hjl htk HCp HCo2 HCr HX16 g1 g0 o0
                  go_wp2_with fail
                  go_loopw [23, 132] (fun _ vj wq => True ∧ ∃ (j : Nat) (pv : Value), j ≤ np ∧ vj = .int .i64 j ∧
                    Blk wq wv.heap.size 84 #[.int .i64 adv, .slice Acv nc ccv, pv] ∧ wq.ownsRow wz.heap.size 103 3 pv j (((gps.take j).map (newPa K)).flatMap pac) ∧ FrS wz.heap.size (fun k => k = wv.heap.size) wz wq) (fun _ j _ => np - (intOf j).toNat)
                  case atStart => exact ⟨trivial, 0, .slice none 0 0, by omega, rfl, HXk.out, World.ownsRow_nil _ _ _ _, FrS.refl _ _ _⟩
                  case round =>
                    obtain ⟨-, j, pv, hj, rfl, hxp, hpo, hfp⟩ := hrel
                    obtain ⟨Apv, cpv, epv⟩ := own_form hpo
                    subst epv
                    have HXp := Lib.hid hxp
                    have HPo := Lib.hid hpo
                    have HFp := Lib.hid hfp
                    have hsp := hfp.size
                    have hkeep2 : Hid (∀ b, b < wv.heap.size → wr.heap[b]? = wv.heap[b]?) := fun b hb => (hfp.block b (by omega) (by omega)).trans (hkeep.out b hb)
                    obtain ⟨wq, rfl⟩ : ∃ x, x = wr := ⟨_, rfl⟩
                    by_cases hlt3 : j < np
                    · obtain ⟨bp, op, capp, ep, hokp, lbp, -, -, hpc⟩ := Pas.cells HPs.out (by rw [HNp.out]; omega)
                      injection ep with e1 e2 e3
                      subst e1 e3
                      clear e2
                      obtain ⟨p0, p1, p2⟩ := hpc j (by rw [HNp.out]; exact hlt3)
                      replace p0 := (World.cell?_of_block (w := wv) (w' := wq) (a := ⟨bp, op + j * 3, none⟩) (hkeep2.out bp lbp)).trans p0
                      replace p1 := (World.cell?_of_block (w := wv) (w' := wq) (a := ⟨bp, op + j * 3 + 1, none⟩) (hkeep2.out bp lbp)).trans p1
                      replace p2 := (World.cell?_of_block (w := wv) (w' := wq) (a := ⟨bp, op + j * 3 + 2, none⟩) (hkeep2.out bp lbp)).trans p2
                      have lbp' : bp < wq.heap.size := by omega
                      have hmem : gps.getD j default ∈ gps := by rw [List.getD_eq_getElem?_getD, List.getElem?_eq_getElem (by rw [HNp.out]; exact hlt3)]; exact List.getElem_mem _
                      obtain ⟨pg0, pg1⟩ := HPr.out _ hmem
                      rw [HNN.out] at pg1
                      have HTj : Hid (gps.take (j + 1) = gps.take j ++ [gps.getD j default]) := Fnt.take_next gps j default (by rw [HNp.out]; exact hlt3)
                      generalize gps.getD j default = pt at *
                      obtain ⟨pgz, px, py⟩ := pt
                      dsimp only at p0 p1 p2 pg0 pg1
                      obtain ⟨pg, rfl⟩ : ∃ q : Nat, pgz = (q : Int) := ⟨_, (Int.toNat_of_nonneg pg0).symm⟩
                      rw [Int.toNat_natCast] at pg1
                      have hnp : Hid (newPa K ⟨pg, px, py⟩ = ⟨num K pg, px, py⟩) := rfl
                      have hnr := (HHx.out _ HFr.out).2.2.2.2.2.2.2
                      have lnr := hnr.lt
                      have lnw : wx.heap.size + 1 < wv.heap.size := lnr
                      have n1 := hnr.cell pg _ (ints_get (by unfold numTo; simpa using pg1))
                      have n2 : (numTo K N N).getD pg 0 = (num K pg : Int) := by
                        unfold numTo
                        rw [List.getD_eq_getElem?_getD, List.getElem?_map, List.getElem?_range pg1]
                        simp [pg1]
                      rw [n2] at n1
                      have hb20 := (Below.refl wq.heap.size wq).alloc (Nat.le_refl _) (.cells #[.int .i64 pg, .int .i64 px, .int .i64 py] 103)
                      have hp20 := Blk.new wq 103 #[.int .i64 pg, .int .i64 px, .int .i64 py]
                      have hx20 := hxp.alloc (.cells #[.int .i64 pg, .int .i64 px, .int .i64 py] 103)
                      have hs20 : Hid ((wq.alloc (.cells #[.int .i64 pg, .int .i64 px, .int .i64 py] 103)).heap.size = wq.heap.size + 1) := by unfold Hid; simp
                      have n20 := (hb20.cell (p := ⟨wx.heap.size + 1, pg, none⟩) (by show wx.heap.size + 1 < wq.heap.size; omega)).trans ((World.cell?_of_block (w := wv) (w' := wq) (a := ⟨wx.heap.size + 1, pg, none⟩) (hkeep2.out _ lnw)).trans n1)
                      have HB20 := Lib.hid hb20
                      have HO20 := Lib.hid (hpo.alloc (.cells #[.int .i64 pg, .int .i64 px, .int .i64 py] 103))
                      have HX20 := Lib.hid hx20
                      have HP20 := Lib.hid hp20
                      have hS0 : (fun w' : World => w'.cell? ⟨wv.heap.size, 2, none⟩ = some (.slice Apv j cpv) ∧ w'.cell? ⟨wq.heap.size, 0, none⟩ = some (.int .i64 pg) ∧ w'.cell? ⟨wq.heap.size, 1, none⟩ = some (.int .i64 px) ∧ w'.cell? ⟨wq.heap.size, 2, none⟩ = some (.int .i64 py) ∧ w'.cell? ⟨wx.heap.size + 1, pg, none⟩ = some (.int .i64 (num K pg))) (wq.alloc (.cells #[.int .i64 pg, .int .i64 px, .int .i64 py] 103)).drew := ⟨hx20.cell 2, hp20.cell 0, hp20.cell 1, hp20.cell 2, n20⟩
                      clear hpc hmem hxp hpo hfp hb20 hp20 hx20 n20 n1 n2 hnr pg0
                      go_wp2_with fail
                      generalize hw20 : wq.alloc (.cells #[.int .i64 pg, .int .i64 px, .int .i64 py] 103) = w20 at *
                      have HW20 := Lib.hid hw20
                      clear hw20
                      refine wp_region_tail (fun w' : World => w'.cell? ⟨wv.heap.size, 2, none⟩ = some (.slice Apv j cpv) ∧ w'.cell? ⟨wq.heap.size, 0, none⟩ = some (.int .i64 pg) ∧ w'.cell? ⟨wq.heap.size, 1, none⟩ = some (.int .i64 px) ∧ w'.cell? ⟨wq.heap.size, 2, none⟩ = some (.int .i64 py) ∧ w'.cell? ⟨wx.heap.size + 1, pg, none⟩ = some (.int .i64 (num K pg))) 13 (by kernel_rfl) (by kernel_rfl) hS0 (fun hHeld => ?_)
                      refine wpAnyD_take 0 (v := ?_) rfl (by kernel_rfl) (by kernel_rfl) (by kernel_rfl) (fun _ _ _ h => h) hHeld (Or.inl ⟨by rfl, ?_⟩) ?_
                      rotate_left
                      · rintro w' ⟨y1, y2, y3, y4, y5⟩; go_simp; try with_reducible rfl
                      try simp only [Act.put, List.setIfInBounds_toArray, List.set_cons_zero, List.set_cons_succ]
                      refine wpAnyD_take 1 (v := ?_) rfl (by kernel_rfl) (by kernel_rfl) (by kernel_rfl) (fun _ _ _ h => h) hHeld (Or.inl ⟨by rfl, ?_⟩) ?_
                      rotate_left
                      · rintro w' ⟨y1, y2, y3, y4, y5⟩; go_simp; try with_reducible rfl
                      try simp only [Act.put, List.setIfInBounds_toArray, List.set_cons_zero, List.set_cons_succ]
                      refine wpAnyD_take 2 (v := ?_) rfl (by kernel_rfl) (by kernel_rfl) (by kernel_rfl) (fun _ _ _ h => h) hHeld (Or.inl ⟨by rfl, ?_⟩) ?_
                      rotate_left
                      · rintro w' ⟨y1, y2, y3, y4, y5⟩; go_simp; try with_reducible rfl
                      try simp only [Act.put, List.setIfInBounds_toArray, List.set_cons_zero, List.set_cons_succ]
                      refine wpAnyD_take 3 (v := ?_) rfl (by kernel_rfl) (by kernel_rfl) (by kernel_rfl) (fun _ _ _ h => h) hHeld (Or.inl ⟨by rfl, ?_⟩) ?_
                      rotate_left
                      · rintro w' ⟨y1, y2, y3, y4, y5⟩; go_simp; try with_reducible rfl
                      try simp only [Act.put, List.setIfInBounds_toArray, List.set_cons_zero, List.set_cons_succ]
                      refine wpAnyD_take 4 (v := ?_) rfl (by kernel_rfl) (by kernel_rfl) (by kernel_rfl) (fun _ _ _ h => h) hHeld (Or.inl ⟨by rfl, ?_⟩) ?_
                      rotate_left
                      · rintro w' ⟨y1, y2, y3, y4, y5⟩; go_simp; try with_reducible rfl
                      try simp only [Act.put, List.setIfInBounds_toArray, List.set_cons_zero, List.set_cons_succ]
                      refine wpAnyD_take 5 (v := ?_) rfl (by kernel_rfl) (by kernel_rfl) (by kernel_rfl) (fun _ _ _ h => h) hHeld (Or.inl ⟨by rfl, ?_⟩) ?_
                      rotate_left
                      · rintro w' ⟨y1, y2, y3, y4, y5⟩; go_simp; try with_reducible rfl
                      try simp only [Act.put, List.setIfInBounds_toArray, List.set_cons_zero, List.set_cons_succ]
                      refine wpAnyD_take 6 (v := ?_) rfl (by kernel_rfl) (by kernel_rfl) (by kernel_rfl) (fun _ _ _ h => h) hHeld (Or.inl ⟨by rfl, ?_⟩) ?_
                      rotate_left
                      · rintro w' ⟨y1, y2, y3, y4, y5⟩; go_simp; try with_reducible rfl
                      try simp only [Act.put, List.setIfInBounds_toArray, List.set_cons_zero, List.set_cons_succ]
                      refine wpAnyD_take 7 (v := ?_) rfl (by kernel_rfl) (by kernel_rfl) (by kernel_rfl) (fun _ _ _ h => h) hHeld (Or.inl ⟨by rfl, ?_⟩) ?_
                      rotate_left
                      · rintro w' ⟨y1, y2, y3, y4, y5⟩; go_simp; try with_reducible rfl
                      try simp only [Act.put, List.setIfInBounds_toArray, List.set_cons_zero, List.set_cons_succ]
                      refine wpAnyD_take 8 (v := ?_) rfl (by kernel_rfl) (by kernel_rfl) (by kernel_rfl) (fun _ _ _ h => h) hHeld (Or.inl ⟨by rfl, ?_⟩) ?_
                      rotate_left
                      · rintro w' ⟨y1, y2, y3, y4, y5⟩; go_simp; try with_reducible rfl
                      try simp only [Act.put, List.setIfInBounds_toArray, List.set_cons_zero, List.set_cons_succ]
                      refine wpAnyD_take 9 (v := ?_) rfl (by kernel_rfl) (by kernel_rfl) (by kernel_rfl) (fun _ _ _ h => h) hHeld (Or.inl ⟨by rfl, ?_⟩) ?_
                      rotate_left
                      · rintro w' ⟨y1, y2, y3, y4, y5⟩; go_simp; try with_reducible rfl
                      try simp only [Act.put, List.setIfInBounds_toArray, List.set_cons_zero, List.set_cons_succ]
                      refine wpAnyD_take 10 (v := ?_) rfl (by kernel_rfl) (by kernel_rfl) (by kernel_rfl) (fun _ _ _ h => h) hHeld (Or.inl ⟨by rfl, ?_⟩) ?_
                      rotate_left
                      · rintro w' ⟨y1, y2, y3, y4, y5⟩; go_simp; try with_reducible rfl
                      try simp only [Act.put, List.setIfInBounds_toArray, List.set_cons_zero, List.set_cons_succ]
                      refine wpAnyD_take 11 (v := ?_) rfl (by kernel_rfl) (by kernel_rfl) (by kernel_rfl) (fun _ _ _ h => h) hHeld (Or.inl ⟨by rfl, ?_⟩) ?_
                      rotate_left
                      · rintro w' ⟨y1, y2, y3, y4, y5⟩; go_simp; try with_reducible rfl
                      try simp only [Act.put, List.setIfInBounds_toArray, List.set_cons_zero, List.set_cons_succ]
                      refine wpAnyD_ready [12] (by kernel_rfl) ?_
                      refine AllReadyD.cons rfl (fun KK hKK => ?_) AllReadyD.nil
                      go_simp
                      have hb21 := (Below.refl w20.heap.size w20).alloc (Nat.le_refl _) (.cells #[.int .i64 (num K pg : Int), .int .i64 px, .int .i64 py] 103)
                      have hs20' := hs20.out
                      have hg21 : (fun w' : World => w'.cell? ⟨wv.heap.size, 2, none⟩ = some (.slice Apv j cpv) ∧ w'.cell? ⟨wq.heap.size, 0, none⟩ = some (.int .i64 pg) ∧ w'.cell? ⟨wq.heap.size, 1, none⟩ = some (.int .i64 px) ∧ w'.cell? ⟨wq.heap.size, 2, none⟩ = some (.int .i64 py) ∧ w'.cell? ⟨wx.heap.size + 1, pg, none⟩ = some (.int .i64 (num K pg))) (w20.alloc (.cells #[.int .i64 (num K pg : Int), .int .i64 px, .int .i64 py] 103)).drew := ⟨(hb21.cell (p := ⟨wv.heap.size, 2, none⟩) (by show wv.heap.size < w20.heap.size; omega)).trans hS0.1, (hb21.cell (p := ⟨wq.heap.size, 0, none⟩) (by show wq.heap.size < w20.heap.size; omega)).trans hS0.2.1, (hb21.cell (p := ⟨wq.heap.size, 1, none⟩) (by show wq.heap.size < w20.heap.size; omega)).trans hS0.2.2.1, (hb21.cell (p := ⟨wq.heap.size, 2, none⟩) (by show wq.heap.size < w20.heap.size; omega)).trans hS0.2.2.2.1, (hb21.cell (p := ⟨wx.heap.size + 1, pg, none⟩) (by show wx.heap.size + 1 < w20.heap.size; omega)).trans hS0.2.2.2.2⟩
                      refine hKK.out _ _ hg21 (fun hHeld => ?_)
                      refine wpAnyD_done (by kernel_rfl) ?_
                      simp only [List.drop_succ_cons, List.drop_zero]
                      have hnew : ∀ jj u, [Value.int .i64 (num K pg : Int), .int .i64 px, .int .i64 py][jj]? = some u → (w20.alloc (.cells #[.int .i64 (num K pg : Int), .int .i64 px, .int .i64 py] 103)).drew.cell? ((⟨w20.heap.size, 0, none⟩ : Addr).add jj) = some u := fun jj u hu => news_new w20 _ _ _ rfl jj u hu
                      have hO21 : (w20.alloc (.cells #[.int .i64 (num K pg : Int), .int .i64 px, .int .i64 py] 103)).drew.ownsRow wz.heap.size 103 3 (.slice Apv j cpv) j (((gps.take j).map (newPa K)).flatMap pac) := HO20.out.alloc _
                      have hX21 : Blk (w20.alloc (.cells #[.int .i64 (num K pg : Int), .int .i64 px, .int .i64 py] 103)).drew wv.heap.size 84 #[.int .i64 adv, .slice Acv nc ccv, .slice Apv j cpv] := HX20.out.alloc _
                      have hF20 := HFp.out.alloc (by omega) (.cells #[.int .i64 pg, .int .i64 px, .int .i64 py] 103)
                      rw [HW20.out] at hF20
                      have hF21 : FrS wz.heap.size (fun k => k = wv.heap.size) wz (w20.alloc (.cells #[.int .i64 (num K pg : Int), .int .i64 px, .int .i64 py] 103)).drew := (hF20.alloc (by omega) _).drew
                      have hs21 : (w20.alloc (.cells #[.int .i64 (num K pg : Int), .int .i64 px, .int .i64 py] 103)).drew.heap.size = w20.heap.size + 1 := by show (w20.alloc (.cells #[.int .i64 (num K pg : Int), .int .i64 px, .int .i64 py] 103)).heap.size = _; simp
                      have HNew := Lib.hid hnew
                      have HO21 := Lib.hid hO21
                      have HX21 := Lib.hid hX21
                      have HF21 := Lib.hid hF21
                      have HS21 := Lib.hid hs21
                      clear hg21 hHeld hKK hS0 hb21 hnew hO21 hX21 hF20 hF21 hs21
                      generalize hw21 : (w20.alloc (.cells #[.int .i64 (num K pg : Int), .int .i64 px, .int .i64 py] 103)).drew = w21 at *
                      clear hw21
                      have hs21 := HS21.out
                      have HOl : Hid (∀ k, (Value.slice Apv j cpv).ownBlock = some k → wz.heap.size ≤ k) := fun k hk => (own_lt HO21.out k hk).1
                      have hsz21 : wz.heap.size ≤ w21.heap.size := HF21.out.size
                      go_wp2_with (at_builtin; go_must (refine wpList_pushk ePa rfl (.tmp 137) (.tmp 148) rfl wz.heap.size (.slice Apv j cpv) j _ rfl HO21.out ⟨w20.heap.size, 0, none⟩ 1 [.int .i64 (num K pg : Int), .int .i64 px, .int .i64 py] rfl rfl HNew.out (by simp [Value.oneCell']) (by omega) (by omega) (by omega) (by omega) ?_); go_must (intro v' w22 hown22 hgr22 _; have HO22 := Lib.hid hown22; have HG22 := Lib.hid hgr22; have hxk22 := (HX21.out.grown hgr22 (fun e => by have := HOl.out _ e.symm; omega)); have x2 := hxk22.cell 2; have x2f := hxk22.frozen 2; simp only [List.getElem?_toArray, List.getElem?_cons_zero, List.getElem?_cons_succ] at x2; obtain ⟨A22, c22, e22⟩ := own_form hown22; subst e22; have HX22 := Lib.hid (hxk22.put 2 (.slice A22 (j + 1) c22)); clear hown22 hgr22 hxk22))
                      go_roundw
                      case rel =>
                        refine ⟨trivial, j + 1, .slice A22 (j + 1) c22, by omega, by go_num, ?_, ?_, ?_⟩
                        · have := HX22.out; simpa using this
                        · have h13 := own_setCell HO22.out (p := ⟨wv.heap.size, 2, none⟩) (.inl (by show wv.heap.size < wz.heap.size; omega)) (.slice A22 (j + 1) c22)
                          rw [HTj.out, List.map_append, List.flatMap_append]
                          simpa [pac, hnp.out] using h13
                        · exact (HF21.out.grown HG22.out hsz21 fun k hk => .inl (HOl.out k hk)).put (p := ⟨wv.heap.size, 2, none⟩) (.inr rfl) _
                      case measure => simp [intOf]; omega
                    · obtain rfl : np = j := by omega
                      have htk : gps.take np = gps := List.take_of_length_le (by rw [HNp.out]; exact Nat.le_refl _)
                      rw [htk] at HPo
                      have x0 := hxp.cell 0
                      have x1 := hxp.cell 1
                      have x2 := hxp.cell 2
                      simp only [List.getElem?_toArray, List.getElem?_cons_zero, List.getElem?_cons_succ] at x0 x1 x2
                      have lxw : wv.heap.size < wq.heap.size := by omega
                      have lov : wx.heap.size < wv.heap.size := HGk.out.lt
                      have low : wx.heap.size < wq.heap.size := by omega
                      have hog : Blk wq wx.heap.size 26 #[.int .i64 F.unit, .slice Agv L.length cgv, .slice none 0 0, .slice none 0 0] := (hkeep2.out _ lov).trans HGk.out
                      have o1 := hog.cell 1
                      have o1f := hog.frozen 1
                      simp only [List.getElem?_toArray, List.getElem?_cons_zero, List.getElem?_cons_succ] at o1
                      have hfq : FrS wv.heap.size (fun _ => False) wv wq := HFz.out.trans (hfp.weak (by omega) fun k hk h => by omega)
                      have HFq2 := Lib.hid hfq
                      have HGz := Lib.hid (HGr.out.fr hfq (Nat.le_refl _) fun k hk => hk.elim).1
                      have HOg := Lib.hid hog
                      have hs16'' := hs16.out
                      have HCq : Hid (Cons wq (fun k => wv.heap.size ≤ k) (.slice Acv nc ccv) gcs) := (HCc.out.keep hsp fun b hb hl => hfp.block b hl (by omega)).mono fun b _ hb => by omega
                      have HPq : Hid (Pas wq (fun k => wv.heap.size ≤ k) (.slice Apv np cpv) (gps.map (newPa K))) := by
                        have h := (SlM.of_own HPo.out).mono (ok' := fun k => wv.heap.size ≤ k) fun k _ h => by omega
                        unfold Hid Pas
                        rw [List.length_map, HNp.out]; exact h
                      have HOl : Hid (∀ k, (Value.slice Agv L.length cgv).ownBlock = some k → wy.heap.size ≤ k) := fun k hk => (own_lt HGz.out k hk).1
                      have hs8 : wy.heap.size ≤ wq.heap.size := by omega
                      have hLN : L.length ≤ 128 := by have := HLi.out; omega
                      clear hxp hpo hfp hog hfq htk HXp HXk
                      go_wp2_with (at_builtin; go_must (refine wpList_pushk eGl rfl (.tmp 153) (.tmp 155) rfl wy.heap.size (.slice Agv L.length cgv) L.length _ rfl (HGz.out.alloc _) ⟨wq.heap.size, 0, none⟩ 1 [.int .i64 adv, .slice Acv nc ccv, .slice Apv np cpv] rfl rfl (news_new _ _ _ _ rfl) (by simp [Value.oneCell']) (by omega) (by omega) (by omega) (by simp; omega) ?_); go_must (intro v' w23 hown23 hgr23 hk23; have HO23 := Lib.hid hown23; have HK23 := Lib.hid hk23; have HG23 := Lib.hid hgr23; have hgk := ((HOg.out.alloc (.cells #[.int .i64 adv, .slice Acv nc ccv, .slice Apv np cpv] 84)).grown hgr23 (fun e => by have := HOl.out _ e.symm; omega)); have o1 := hgk.cell 1; have o1f := hgk.frozen 1; simp only [List.getElem?_toArray, List.getElem?_cons_zero, List.getElem?_cons_succ] at o1; obtain ⟨A23, c23, e23⟩ := own_form hown23; subst e23; have HGk2 := Lib.hid (hgk.put 1 (.slice A23 (L.length + 1) c23)); clear hown23 hgr23 hk23 hgk))
                      go_roundw
                      case rel =>
                        refine ⟨trivial, i + 1, L ++ [(⟨adv, gcs, gps.map (newPa K)⟩, .slice Acv nc ccv, .slice Apv np cpv)], .slice A23 (L.length + 1) c23, by omega, by go_num, by have := HLi.out; simp; omega, ?_, ?_, ?_, ?_⟩
                        · rw [HTk.out, List.map_append, List.map_append, HLm.out]
                          congr 1
                          rw [List.map_cons, List.map_nil, List.map_cons, List.map_nil, HGe.out, HGE.out]
                        · have := HGk2.out; simpa using this
                        · have hpu := GlR.push (b := (⟨adv, gcs, gps.map (newPa K)⟩, .slice Acv nc ccv, .slice Apv np cpv)) HGr.out hsr HFq2.out (fun k hk => hk.elim) HCq.out HPq.out (by have := HO23.out; simpa [glf] using this) HG23.out HK23.out
                          exact hpu.fr (R := w23.heap.size) (S := fun k => k = wx.heap.size) ((FrS.refl w23.heap.size (fun k => k = wx.heap.size) w23).put (p := ⟨wx.heap.size, 1, none⟩) (.inr rfl) _) (Nat.le_refl _) (fun k hk => by omega)
                        · exact (((HFr.out.trans (HFq2.out.weak hsr fun k _ h => h.elim)).alloc hs8 _).grown HG23.out (Nat.le_trans hs8 (by simp)) fun k hk => .inl (HOl.out k hk)).put (p := ⟨wx.heap.size, 1, none⟩) (.inr rfl) _
                      case measure => simp [intOf]; omega
            · obtain rfl : no = i := by omega
              obtain ⟨wg, rfl⟩ : ∃ x, x = wr := ⟨_, rfl⟩
              have HGs : Hid (L.map (·.1) = (subF F cs).gs) := by
                unfold Hid
                rw [hLm, List.take_of_length_le (by rw [HNo.out]; exact Nat.le_refl _)]
                show _ = (oldOf (keepOf F cs)).map fun g => newGl (keepOf F cs) (gl F g)
                rw [HKK.out, HOe.out]
              have lov : wx.heap.size < wg.heap.size := hgk.lt
              have hgl := hgr.gls
              rw [HGs.out] at hgl
              have hll : L.length = (subF F cs).gs.length := by rw [← HGs.out, List.length_map]
              have HGl : Hid (Gls wg (fun k => wy.heap.size ≤ k) (.slice Agv L.length cgv) (subF F cs).gs) := hgl
              have HLl := Lib.hid hll
              have HHg : Hid (∀ w', FrS wg.heap.size (fun k => k = wx.heap.size) wg w' → FrS wy.heap.size (fun k => k = wx.heap.size) wy w') := fun w' h => hfr.trans (h.weak hsr fun _ _ h => h)
              have HFnB : Hid (∀ c, 0 ≤ ((num K (find F c).toNat : Nat) : Int) ∧ ((num K (find F c).toNat : Nat) : Int) ≤ 128) := fun c => by
                have := num_le (K := K) (N := 128) (by omega) (find F c).toNat
                omega
              have HCb := Lib.hid (code_bd HFk.out HCs.out)
              have hm := HCn.out
              have HML := Lib.hid (mapTo_len cs (fun c => (num K (find F c).toNat : Int)))
              have HMR := Lib.hid (mapTo_rb cs (fun c => (num K (find F c).toNat : Int)) HCb.out HFnB.out)
              have HMS := Lib.hid fun i (h : i < m) => mapTo_succ cs (fun c => (num K (find F c).toNat : Int)) (i := i) (by omega)
              have HMF := Lib.hid (mapTo_full cs (fun c => (num K (find F c).toNat : Int)))
              rw [hm] at HML HMR HMF
              generalize mapTo cs (fun c => (num K (find F c).toNat : Int)) = mt at *
              generalize L.length = nL at *
              clear hgl hgr hgk hfr hll hm HGr HFr HLm hLm HLi HBy HOf
              go_wp2_with fail
              go_loopw [25, 26, 27, 161] (fun _ _ _ vi wq => True ∧ ∃ (i : Nat) (mv : Value), i ≤ m ∧ vi = .int .i64 i ∧
                Blk wq wx.heap.size 26 #[.int .i64 F.unit, .slice Agv nL cgv, mv, .slice none 0 0] ∧ wq.ownsRow wg.heap.size 49 3 mv (mt i).length ((mt i).flatMap rgc) ∧ FrS wg.heap.size (fun k => k = wx.heap.size) wg wq) (fun _ _ _ i _ => m - (intOf i).toNat)
              case atStart => exact ⟨trivial, 0, .slice none 0 0, by omega, rfl, HGk.out, by
                have h0 : mt 0 = [] := List.eq_nil_of_length_eq_zero (by have := HML.out 0 (by omega); omega)
                rw [h0]; exact World.ownsRow_nil _ _ _ _, FrS.refl _ _ _⟩
              case round =>
                obtain ⟨-, i, mv, hi, rfl, hok2, hmo, hfm⟩ := hrel
                have hml := HML.out i hi
                have hmr := HMR.out i hi
                obtain ⟨Amv, cmv, emv⟩ := own_form hmo
                subst emv
                have HOk := Lib.hid hok2
                have HMo := Lib.hid hmo
                have HFm := Lib.hid hfm
                have hsm := hfm.size
                have hHr := HHx.out _ (HHg.out _ hfm)
                by_cases hlt : i < m
                · obtain ⟨-, hbf, -, hbl, hcd, -, -, hnr⟩ := hHr
                  obtain ⟨bc, oc, ec, -, lbc, hcc⟩ := SlM.addr hcd (by omega)
                  subst ec
                  have c0 := hcc i _ (ints_get (by rw [HCn.out]; exact hlt))
                  have hcm : cs.getD i 0 ∈ cs := by rw [List.getD_eq_getElem?_getD, List.getElem?_eq_getElem (by rw [HCn.out]; exact hlt)]; exact List.getElem_mem _
                  obtain ⟨cb0, cb1⟩ := HCb.out _ hcm
                  have HMs := Lib.hid (HMS.out i hlt)
                  have hfn := find_nat HFk.out (cs.getD i 0)
                  rw [HNN.out] at hfn
                  obtain ⟨hfb0, hfb1⟩ := HFnB.out (cs.getD i 0)
                  have HFd := Lib.hid (fun W hb => find_any F (cs.getD i 0) _ _ W (HFv.out W hb) (by have := HFk.out.m1; omega) HFk.out.rg (by have := HFk.out.n1; omega))
                  rw [← hfn.1] at HFd
                  generalize cs.getD i 0 = c at *
                  generalize (find F c).toNat = r at *
                  have n1 := hnr.cell r _ (ints_get (by unfold numTo; simpa using hfn.2))
                  have n2 : (numTo K N N).getD r 0 = (num K r : Int) := by
                    unfold numTo
                    rw [List.getD_eq_getElem?_getD, List.getElem?_map, List.getElem?_range hfn.2]
                    simp [hfn.2]
                  rw [n2] at n1
                  have hrN := hfn.2
                  have lnr := hnr.lt
                  generalize num K r = gg at *
                  have b0 := hbf.cell 0
                  have b1 := hbf.cell 1
                  have b2 := hbf.cell 2
                  have b3 := hbf.cell 3
                  simp only [List.getElem?_toArray, List.getElem?_cons_zero, List.getElem?_cons_succ] at b0 b1 b2 b3
                  have lfw' := hbf.lt
                  have HBl := Lib.hid hbl
                  have HN1 := Lib.hid n1
                  clear hcc hcm hfn n2 n1 hnr hcd hbf hbl hmo hfm hok2
                  go_wp2_with (go_at_call 34; refine (HFd.out _ HBl.out).mono ?_; rintro e w24 ⟨rfl, hb24⟩; have HB24 := Lib.hid hb24; have n1 := (hb24.cell (p := ⟨wx.heap.size + 1, r, none⟩) lnr).trans HN1.out; have ln24 := Nat.lt_of_lt_of_le lnr hb24.size; have hok3 := HOk.out.below hb24 HOk.out.lt; have o2 := hok3.cell 2; have o2f := hok3.frozen 2; have lo3 := hok3.lt; have HOk3 := Lib.hid hok3; clear hok3; simp only [List.getElem?_toArray, List.getElem?_cons_zero, List.getElem?_cons_succ] at o2; clear hb24)
                  have HMo24 := Lib.hid (own_below HMo.out (HB24.out.mono (Nat.le_refl _)))
                  generalize hmlq : (mt i).length = ml at *
                  have HMl := Lib.hid hmlq
                  clear hmlq
                  rcases Nat.eq_zero_or_pos ml with hz | hz
                  · subst hz
                    have HMz : Hid (mt (i + 1) = mt i ++ [⟨c, c, gg⟩]) := by unfold Hid; rw [HMs.out, addC_miss (by have := HMl.out; omega)]
                    go_quiet (fail)
                    have hk25 : Blk (w24.drewN nq) wx.heap.size 26 _ := HOk3.out
                    have ho25 : (w24.drewN nq).ownsRow wg.heap.size 49 3 (.slice Amv 0 cmv) 0 ((mt i).flatMap rgc) := HMo24.out
                    have hf25 : FrS wg.heap.size (fun k => k = wx.heap.size) wg (w24.drewN nq) := by
                      have h := HB24.out
                      exact HFm.out.trans ⟨h.os, h.tape, h.output, h.size, fun k hk _ => h.block k (by omega)⟩
                    have o25 : (w24.drewN nq).cell? ⟨wx.heap.size, 2, none⟩ = some (.slice Amv 0 cmv) := o2
                    have of25 : (w24.drewN nq).frozen? ⟨wx.heap.size, 2, none⟩ = false := o2f
                    have lo25 : wx.heap.size < (w24.drewN nq).heap.size := lo3
                    have HK25 := Lib.hid hk25
                    have HO25 := Lib.hid ho25
                    have HF25 := Lib.hid hf25
                    clear hk25 ho25 hf25 o2 o2f n1
                    generalize w24.drewN nq = w25 at *
                    have HOl : Hid (∀ k, (Value.slice Amv (0) cmv).ownBlock = some k → wg.heap.size ≤ k) := fun k hk => (own_lt HO25.out k hk).1
                    have hs8 : wg.heap.size ≤ w25.heap.size := HF25.out.size
                    go_wp2_with (at_builtin; go_must (refine wpList_pushk eRg rfl (.tmp 217) (.tmp 222) rfl wg.heap.size (.slice Amv (0) cmv) (0) _ rfl (HO25.out.alloc _) ⟨w25.heap.size, 0, none⟩ 1 [.int .i64 c, .int .i64 c, .int .i64 gg] rfl rfl (news_new _ _ _ _ rfl) (by simp [Value.oneCell']) (by omega) (by omega) (by omega) (by simp; omega) ?_); go_must (intro v' w26 hown26 hgr26 _; have HO26 := Lib.hid hown26; have HG26 := Lib.hid hgr26; have hgk := ((HK25.out.alloc (.cells #[.int .i64 c, .int .i64 c, .int .i64 gg] 49)).grown hgr26 (fun e => by have := HOl.out _ e.symm; omega)); have o2 := hgk.cell 2; have o2f := hgk.frozen 2; simp only [List.getElem?_toArray, List.getElem?_cons_zero, List.getElem?_cons_succ] at o2; obtain ⟨A26, c26, e26⟩ := own_form hown26; subst e26; have HGk2 := Lib.hid (hgk.put 2 (.slice A26 (0 + 1) c26)); clear hown26 hgr26 hgk))
                    go_roundw
                    case rel =>
                      refine ⟨trivial, i + 1, .slice A26 (0 + 1) c26, by omega, by go_num, ?_, ?_, ?_⟩
                      · have := HGk2.out; simpa using this
                      · rw [HMz.out, List.length_append, List.flatMap_append, HMl.out]
                        have h13 := own_setCell HO26.out (p := ⟨wx.heap.size, 2, none⟩) (.inl (by show wx.heap.size < wg.heap.size; omega)) (.slice A26 (0 + 1) c26)
                        exact h13
                      · exact ((HF25.out.alloc hs8 _).grown HG26.out (Nat.le_trans hs8 (by simp)) fun k hk => .inl (HOl.out k hk)).put (p := ⟨wx.heap.size, 2, none⟩) (.inr rfl) _
                    case measure => simp [intOf]; omega
                  · obtain ⟨q, rfl⟩ : ∃ q, ml = q + 1 := ⟨ml - 1, by omega⟩
                    obtain ⟨mb, cap, ev, hmb, lmb, hcell, hfro⟩ := own_cells HMo24.out (by omega)
                    injection ev with ev1 ev2 ev3
                    subst ev1 ev3
                    clear ev2
                    have hxb := getD_rb hmr (i := q) (by have := HMl.out; omega)
                    have hxc := fun jj u (h : jj < 3) (h2 : (rgc ((mt i).getD q default))[jj]? = some u) => hcell (q * 3 + jj) u ((flat_at (f := rgc) (m := 3) (fun _ => rfl) default (mt i) q jj (by have := HMl.out; omega) h).trans h2)
                    have d0 := hxc 0 _ (by omega) rfl
                    have d1 := hxc 1 _ (by omega) rfl
                    have d2 := hxc 2 _ (by omega) rfl
                    have f1 := hfro (q * 3 + 1)
                    have HSet := Lib.hid (rgc_set (mt i) c q (by have := HMl.out; omega))
                    have hla : (mt i).length - 1 = q := by have := HMl.out; omega
                    have HHit := Lib.hid (addC_hit (m := mt i) (c := c) (g := gg) (by have := HMl.out; omega))
                    have HMiss := Lib.hid (addC_miss (m := mt i) (c := c) (g := gg))
                    rw [hla] at HHit HMiss
                    have HSl : Hid (((mt i).set q ⟨((mt i).getD q default).lo, c, ((mt i).getD q default).g⟩).length = q + 1) := by unfold Hid; rw [List.length_set]; exact HMl.out
                    generalize (mt i).getD q default = x at *
                    obtain ⟨xl, xh, xg⟩ := x
                    obtain ⟨xl0, xl1, xh0, xh1, xg0, xg1⟩ := hxb
                    dsimp only at d0 d1 d2 xl0 xl1 xh0 xh1 xg0 xg1 HHit HMiss HSet HSl
                    rw [Nat.add_zero] at d0
                    clear hxc hcell hfro hla hmr
                    by_cases h1 : xh = c - 1
                    · by_cases h2 : xg + c - xl = gg
                      · have HMz : Hid (mt (i + 1) = (mt i).set q ⟨xl, c, xg⟩) := by unfold Hid; rw [HMs.out, HHit.out h1 h2]
                        go_quiet (fail)
                        have hk25 : Blk (w24.drewN nq) wx.heap.size 26 _ := HOk3.out
                        have ho25 : (w24.drewN nq).ownsRow wg.heap.size 49 3 (.slice (some ⟨mb, 0, none⟩) (q + 1) cmv) (q + 1) ((mt i).flatMap rgc) := HMo24.out
                        have hf25 : FrS wg.heap.size (fun k => k = wx.heap.size) wg (w24.drewN nq) := by
                          have h := HB24.out
                          exact HFm.out.trans ⟨h.os, h.tape, h.output, h.size, fun k hk _ => h.block k (by omega)⟩
                        have o25 : (w24.drewN nq).cell? ⟨wx.heap.size, 2, none⟩ = some (.slice (some ⟨mb, 0, none⟩) (q + 1) cmv) := o2
                        have lo25 : wx.heap.size < (w24.drewN nq).heap.size := lo3
                        have dd25 : (w24.drewN nq).cell? ⟨mb, q * 3 + 1, none⟩ = some (.int .i64 xh) := d1
                        have df25 : (w24.drewN nq).frozen? ⟨mb, q * 3 + 1, none⟩ = false := f1
                        have lm25 : mb < (w24.drewN nq).heap.size := lmb
                        have HK25 := Lib.hid hk25
                        have HO25 := Lib.hid ho25
                        have HF25 := Lib.hid hf25
                        clear hk25 ho25 hf25 o2 o2f n1 d0 d1 d2 f1 HHit HMiss h2 h1
                        generalize w24.drewN nq = w25 at *
                        go_wp2
                        go_roundw
                        case rel =>
                          refine ⟨trivial, i + 1, .slice (some ⟨mb, 0, none⟩) (q + 1) cmv, by omega, by go_num, HK25.out.far (p := ⟨mb, q * 3 + 1, none⟩) (by show wx.heap.size ≠ mb; omega) _, ?_, HF25.out.put (p := ⟨mb, q * 3 + 1, none⟩) (.inl hmb) _⟩
                          rw [HMz.out, HSl.out, ← HSet.out]
                          exact own_putk HO25.out _
                        case measure => simp [intOf]; omega
                      · have HMz : Hid (mt (i + 1) = mt i ++ [⟨c, c, gg⟩]) := by unfold Hid; rw [HMs.out, HMiss.out (fun e => h2 e.2.2)]
                        clear HSet
                        go_quiet (fail)
                        have hk25 : Blk (w24.drewN nq) wx.heap.size 26 _ := HOk3.out
                        have ho25 : (w24.drewN nq).ownsRow wg.heap.size 49 3 (.slice (some ⟨mb, 0, none⟩) (q + 1) cmv) (q + 1) ((mt i).flatMap rgc) := HMo24.out
                        have hf25 : FrS wg.heap.size (fun k => k = wx.heap.size) wg (w24.drewN nq) := by
                          have h := HB24.out
                          exact HFm.out.trans ⟨h.os, h.tape, h.output, h.size, fun k hk _ => h.block k (by omega)⟩
                        have o25 : (w24.drewN nq).cell? ⟨wx.heap.size, 2, none⟩ = some (.slice (some ⟨mb, 0, none⟩) (q + 1) cmv) := o2
                        have of25 : (w24.drewN nq).frozen? ⟨wx.heap.size, 2, none⟩ = false := o2f
                        have lo25 : wx.heap.size < (w24.drewN nq).heap.size := lo3
                        have HK25 := Lib.hid hk25
                        have HO25 := Lib.hid ho25
                        have HF25 := Lib.hid hf25
                        clear hk25 ho25 hf25 o2 o2f n1
                        generalize w24.drewN nq = w25 at *
                        have HOl : Hid (∀ k, (Value.slice (some ⟨mb, 0, none⟩) (q + 1) cmv).ownBlock = some k → wg.heap.size ≤ k) := fun k hk => (own_lt HO25.out k hk).1
                        have hs8 : wg.heap.size ≤ w25.heap.size := HF25.out.size
                        go_wp2_with (at_builtin; go_must (refine wpList_pushk eRg rfl (.tmp 217) (.tmp 222) rfl wg.heap.size (.slice (some ⟨mb, 0, none⟩) (q + 1) cmv) (q + 1) _ rfl (HO25.out.alloc _) ⟨w25.heap.size, 0, none⟩ 1 [.int .i64 c, .int .i64 c, .int .i64 gg] rfl rfl (news_new _ _ _ _ rfl) (by simp [Value.oneCell']) (by omega) (by omega) (by omega) (by simp; omega) ?_); go_must (intro v' w26 hown26 hgr26 _; have HO26 := Lib.hid hown26; have HG26 := Lib.hid hgr26; have hgk := ((HK25.out.alloc (.cells #[.int .i64 c, .int .i64 c, .int .i64 gg] 49)).grown hgr26 (fun e => by have := HOl.out _ e.symm; omega)); have o2 := hgk.cell 2; have o2f := hgk.frozen 2; simp only [List.getElem?_toArray, List.getElem?_cons_zero, List.getElem?_cons_succ] at o2; obtain ⟨A26, c26, e26⟩ := own_form hown26; subst e26; have HGk2 := Lib.hid (hgk.put 2 (.slice A26 (q + 1 + 1) c26)); clear hown26 hgr26 hgk))
                        go_roundw
                        case rel =>
                          refine ⟨trivial, i + 1, .slice A26 (q + 1 + 1) c26, by omega, by go_num, ?_, ?_, ?_⟩
                          · have := HGk2.out; simpa using this
                          · rw [HMz.out, List.length_append, List.flatMap_append, HMl.out]
                            have h13 := own_setCell HO26.out (p := ⟨wx.heap.size, 2, none⟩) (.inl (by show wx.heap.size < wg.heap.size; omega)) (.slice A26 (q + 1 + 1) c26)
                            exact h13
                          · exact ((HF25.out.alloc hs8 _).grown HG26.out (Nat.le_trans hs8 (by simp)) fun k hk => .inl (HOl.out k hk)).put (p := ⟨wx.heap.size, 2, none⟩) (.inr rfl) _
                        case measure => simp [intOf]; omega
                    · have HMz : Hid (mt (i + 1) = mt i ++ [⟨c, c, gg⟩]) := by unfold Hid; rw [HMs.out, HMiss.out (fun e => h1 e.2.1)]
                      have hd1 : (xh == c - 1) = false := by simpa using h1
                      go_quiet (fail)
                      have hk25 : Blk (w24.drewN nq) wx.heap.size 26 _ := HOk3.out
                      have ho25 : (w24.drewN nq).ownsRow wg.heap.size 49 3 (.slice (some ⟨mb, 0, none⟩) (q + 1) cmv) (q + 1) ((mt i).flatMap rgc) := HMo24.out
                      have hf25 : FrS wg.heap.size (fun k => k = wx.heap.size) wg (w24.drewN nq) := by
                        have h := HB24.out
                        exact HFm.out.trans ⟨h.os, h.tape, h.output, h.size, fun k hk _ => h.block k (by omega)⟩
                      have o25 : (w24.drewN nq).cell? ⟨wx.heap.size, 2, none⟩ = some (.slice (some ⟨mb, 0, none⟩) (q + 1) cmv) := o2
                      have of25 : (w24.drewN nq).frozen? ⟨wx.heap.size, 2, none⟩ = false := o2f
                      have lo25 : wx.heap.size < (w24.drewN nq).heap.size := lo3
                      have HK25 := Lib.hid hk25
                      have HO25 := Lib.hid ho25
                      have HF25 := Lib.hid hf25
                      clear hk25 ho25 hf25 o2 o2f n1
                      generalize w24.drewN nq = w25 at *
                      have HOl : Hid (∀ k, (Value.slice (some ⟨mb, 0, none⟩) (q + 1) cmv).ownBlock = some k → wg.heap.size ≤ k) := fun k hk => (own_lt HO25.out k hk).1
                      have hs8 : wg.heap.size ≤ w25.heap.size := HF25.out.size
                      go_wp2_with (at_builtin; go_must (refine wpList_pushk eRg rfl (.tmp 217) (.tmp 222) rfl wg.heap.size (.slice (some ⟨mb, 0, none⟩) (q + 1) cmv) (q + 1) _ rfl (HO25.out.alloc _) ⟨w25.heap.size, 0, none⟩ 1 [.int .i64 c, .int .i64 c, .int .i64 gg] rfl rfl (news_new _ _ _ _ rfl) (by simp [Value.oneCell']) (by omega) (by omega) (by omega) (by simp; omega) ?_); go_must (intro v' w26 hown26 hgr26 _; have HO26 := Lib.hid hown26; have HG26 := Lib.hid hgr26; have hgk := ((HK25.out.alloc (.cells #[.int .i64 c, .int .i64 c, .int .i64 gg] 49)).grown hgr26 (fun e => by have := HOl.out _ e.symm; omega)); have o2 := hgk.cell 2; have o2f := hgk.frozen 2; simp only [List.getElem?_toArray, List.getElem?_cons_zero, List.getElem?_cons_succ] at o2; obtain ⟨A26, c26, e26⟩ := own_form hown26; subst e26; have HGk2 := Lib.hid (hgk.put 2 (.slice A26 (q + 1 + 1) c26)); clear hown26 hgr26 hgk))
                      go_roundw
                      case rel =>
                        refine ⟨trivial, i + 1, .slice A26 (q + 1 + 1) c26, by omega, by go_num, ?_, ?_, ?_⟩
                        · have := HGk2.out; simpa using this
                        · rw [HMz.out, List.length_append, List.flatMap_append, HMl.out]
                          have h13 := own_setCell HO26.out (p := ⟨wx.heap.size, 2, none⟩) (.inl (by show wx.heap.size < wg.heap.size; omega)) (.slice A26 (q + 1 + 1) c26)
                          exact h13
                        · exact ((HF25.out.alloc hs8 _).grown HG26.out (Nat.le_trans hs8 (by simp)) fun k hk => .inl (HOl.out k hk)).put (p := ⟨wx.heap.size, 2, none⟩) (.inr rfl) _
                      case measure => simp [intOf]; omega
                · obtain rfl : m = i := by omega
                  obtain ⟨wm, rfl⟩ : ∃ x, x = wr := ⟨_, rfl⟩
                  have HMp : Hid (mt m = (subF F cs).map) := by
                    unfold Hid
                    rw [HMF.out]
                    show _ = mapOf cs fun c => (num (keepOf F cs) (find F c).toNat : Int)
                    rw [HKK.out]
                  have HKr : Hid (kernTo F K F.kern.length = (subF F cs).kern) := by
                    unfold Hid kernTo
                    rw [List.take_length]
                    show _ = (F.kern.filter (kpk (keepOf F cs))).map (newKp (keepOf F cs))
                    rw [HKK.out]
                  have HHm : Hid (∀ w', FrS wm.heap.size (fun k => k = wx.heap.size) wm w' → FrS wg.heap.size (fun k => k = wx.heap.size) wg w') := fun w' h => hfm.trans (h.weak hsm fun _ _ h => h)
                  have lom : wx.heap.size < wm.heap.size := by omega
                  have hk1 := HFk.out.k1
                  have HKL := Lib.hid (fun i => kernTo_len F K i)
                  have HKh := Lib.hid (fun i (h : i < F.kern.length) => kernTo_hit F K (i := i) h)
                  have HKm := Lib.hid (fun i (h : i < F.kern.length) => kernTo_miss F K (i := i) h)
                  have hb3 := hHr.2.1.cell 3
                  simp only [List.getElem?_toArray, List.getElem?_cons_zero, List.getElem?_cons_succ] at hb3
                  have lfm : w.heap.size < wm.heap.size := by omega
                  generalize kernTo F K = kt at *
                  have HMl := Lib.hid (rfl : (mt m).length = (mt m).length)
                  obtain ⟨nM, hnM⟩ : ∃ n, (mt m).length = n := ⟨_, rfl⟩
                  rw [hnM] at HOk HMo
                  have HNM := Lib.hid hnM
                  clear hnM HML HMR HMS HMF HFnB HCb hml hmr hmo hfm hok2 hHr
                  go_wp2_with fail
                  go_loopw [29, 229] (fun _ vi wq => True ∧ ∃ (i : Nat) (kv : Value), i ≤ F.kern.length ∧ vi = .int .i64 i ∧
                    Blk wq wx.heap.size 26 #[.int .i64 F.unit, .slice Agv nL cgv, .slice Amv nM cmv, kv] ∧ wq.ownsRow wm.heap.size 35 3 kv (kt i).length ((kt i).flatMap kpc) ∧ FrS wm.heap.size (fun k => k = wx.heap.size) wm wq) (fun _ i _ => F.kern.length - (intOf i).toNat)
                  case atStart => exact ⟨trivial, 0, .slice none 0 0, by omega, rfl, HOk.out, by
                    have h0 : kt 0 = [] := List.eq_nil_of_length_eq_zero (by have := HKL.out 0; omega)
                    rw [h0]; exact World.ownsRow_nil _ _ _ _, FrS.refl _ _ _⟩
                  case round =>
                    obtain ⟨-, i, kv, hi, rfl, hok3, hko, hfk⟩ := hrel
                    have hkl2 := HKL.out i
                    obtain ⟨Akv, ckv, ekv⟩ := own_form hko
                    subst ekv
                    have HOk3 := Lib.hid hok3
                    have HKo := Lib.hid hko
                    have HFk2 := Lib.hid hfk
                    have hsk := hfk.size
                    have hHr := HHx.out _ (HHg.out _ (HHm.out _ hfk))
                    obtain ⟨wq, rfl⟩ : ∃ x, x = wr := ⟨_, rfl⟩
                    by_cases hlt : i < F.kern.length
                    · obtain ⟨hkb, -, -, hbl, -, -, hkr, hnr⟩ := hHr
                      obtain ⟨vg, vm, vk, ev, -, -, hkn⟩ := HFv.out _ hbl
                      injection ev with ev
                      simp only [Array.mk.injEq, List.cons.injEq, and_true] at ev
                      obtain ⟨-, -, -, ev⟩ := ev
                      subst ev
                      obtain ⟨bp, op, capp, ep, -, lbp, -, -, hkc⟩ := kps_cells hkn (by omega)
                      injection ep with e1 e2 e3
                      subst e1 e3
                      clear e2
                      obtain ⟨p0, p1, p2⟩ := hkc i hlt
                      have hko1 : KpOk (F.kern.getD i default) F.gs.length := kp_ok (HFk.out.kn i hlt)
                      rw [HNN.out] at hko1
                      have HKh1 : Hid (kpk K (F.kern.getD i default) = true → kt (i + 1) = kt i ++ [newKp K (F.kern.getD i default)]) := HKh.out i hlt
                      have HKm1 : Hid (kpk K (F.kern.getD i default) = false → kt (i + 1) = kt i) := HKm.out i hlt
                      generalize F.kern.getD i default = pt at *
                      obtain ⟨lz, rz, by_⟩ := pt
                      obtain ⟨l0, l1, r0, r1, -, by1, by2⟩ := hko1
                      dsimp only at p0 p1 p2 l0 l1 r0 r1 by1 by2
                      obtain ⟨l, rfl⟩ : ∃ q : Nat, lz = (q : Int) := ⟨_, (Int.toNat_of_nonneg l0).symm⟩
                      obtain ⟨r, rfl⟩ : ∃ q : Nat, rz = (q : Int) := ⟨_, (Int.toNat_of_nonneg r0).symm⟩
                      have hkk : kpk K ⟨l, r, by_⟩ = (ktp K l && ktp K r) := rfl
                      rw [hkk] at HKh1 HKm1
                      have l1' : l < N := by omega
                      have r1' : r < N := by omega
                      have kl := hkr.cell l (.bool (ktp K l)) (by unfold bools ktp; rw [List.getElem?_map, List.getD_eq_getElem?_getD, List.getElem?_eq_getElem (by omega)]; rfl)
                      have kr := hkr.cell r (.bool (ktp K r)) (by unfold bools ktp; rw [List.getElem?_map, List.getD_eq_getElem?_getD, List.getElem?_eq_getElem (by omega)]; rfl)
                      have hnum : ∀ q, q < N → wq.cell? ⟨wx.heap.size + 1, q, none⟩ = some (.int .i64 (num K q)) := fun q hq => by
                        have n1 := hnr.cell q _ (ints_get (by unfold numTo; simpa using hq))
                        have n2 : (numTo K N N).getD q 0 = (num K q : Int) := by
                          unfold numTo
                          rw [List.getD_eq_getElem?_getD, List.getElem?_map, List.getElem?_range hq]
                          simp [hq]
                        rw [n2] at n1; exact n1
                      have lkr := hkr.lt
                      have lnr := hnr.lt
                      have lkb : w5.heap.size + 1 < wq.heap.size := by omega
                      have hb30 := (Below.refl wq.heap.size wq).alloc (Nat.le_refl _) (.cells #[.int .i64 l, .int .i64 r, .int .i64 by_] 35)
                      have hp30 := Blk.new wq 35 #[.int .i64 l, .int .i64 r, .int .i64 by_]
                      have hx30 := hok3.alloc (.cells #[.int .i64 l, .int .i64 r, .int .i64 by_] 35)
                      have hf30 := hfk.alloc hsk (.cells #[.int .i64 l, .int .i64 r, .int .i64 by_] 35)
                      have ho30 := hko.alloc (.cells #[.int .i64 l, .int .i64 r, .int .i64 by_] 35)
                      have hs30 : Hid ((wq.alloc (.cells #[.int .i64 l, .int .i64 r, .int .i64 by_] 35)).heap.size = wq.heap.size + 1) := by unfold Hid; simp
                      have y5 := (hb30.cell (p := ⟨wx.heap.size + 1, l, none⟩) lnr).trans (hnum l l1')
                      have y6 := (hb30.cell (p := ⟨wx.heap.size + 1, r, none⟩) lnr).trans (hnum r r1')
                      have HX30 := Lib.hid hx30
                      have HF30 := Lib.hid hf30
                      have HO30 := Lib.hid ho30
                      generalize hnq : (kt i).length = nq2 at *
                      have HNq := Lib.hid hnq
                      have hS0 : (fun w' : World => w'.cell? ⟨wx.heap.size, 3, none⟩ = some (.slice Akv nq2 ckv) ∧ w'.cell? ⟨wq.heap.size, 0, none⟩ = some (.int .i64 l) ∧ w'.cell? ⟨wq.heap.size, 1, none⟩ = some (.int .i64 r) ∧ w'.cell? ⟨wq.heap.size, 2, none⟩ = some (.int .i64 by_) ∧ w'.cell? ⟨wx.heap.size + 1, l, none⟩ = some (.int .i64 (num K l)) ∧ w'.cell? ⟨wx.heap.size + 1, r, none⟩ = some (.int .i64 (num K r))) (wq.alloc (.cells #[.int .i64 l, .int .i64 r, .int .i64 by_] 35)).drew := ⟨hx30.cell 3, hp30.cell 0, hp30.cell 1, hp30.cell 2, y5, y6⟩
                      have HS0 := Lib.hid hS0
                      clear hkc hnr hkr hkn hok3 hko hfk hbl hb30 hp30 hx30 hf30 ho30 y5 y6 hkk hnum hS0 hnq
                      cases hkl3 : ktp K l
                      case false =>
                        rw [hkl3] at kl HKm1
                        have HZ : Hid (kt (i + 1) = kt i) := HKm1.out rfl
                        clear hkl3
                        go_wp2_with fail
                        go_roundw
                        case rel => exact ⟨trivial, i + 1, .slice Akv nq2 ckv, by omega, by go_num, HX30.out, by rw [HZ.out, HNq.out]; exact HO30.out, HF30.out⟩
                        case measure => simp [intOf]; omega
                      case true =>
                        cases hkr3 : ktp K r
                        case false =>
                          rw [hkl3] at kl HKm1
                          rw [hkr3] at kr HKm1
                          have HZ : Hid (kt (i + 1) = kt i) := HKm1.out rfl
                          clear hkl3 hkr3
                          go_wp2_with fail
                          go_roundw
                          case rel => exact ⟨trivial, i + 1, .slice Akv nq2 ckv, by omega, by go_num, HX30.out, by rw [HZ.out, HNq.out]; exact HO30.out, HF30.out⟩
                          case measure => simp [intOf]; omega
                        case true =>
                        rw [hkl3] at kl HKh1
                        rw [hkr3] at kr HKh1
                        have HZ : Hid (kt (i + 1) = kt i ++ [⟨num K l, num K r, by_⟩]) := HKh1.out rfl
                        clear hkl3 hkr3
                        go_wp2_with fail
                        generalize hw30 : wq.alloc (.cells #[.int .i64 l, .int .i64 r, .int .i64 by_] 35) = w30 at *
                        have HW30 := Lib.hid hw30
                        clear hw30
                        have hS0 := HS0.out
                        refine wp_region_tail (fun w' : World => w'.cell? ⟨wx.heap.size, 3, none⟩ = some (.slice Akv nq2 ckv) ∧ w'.cell? ⟨wq.heap.size, 0, none⟩ = some (.int .i64 l) ∧ w'.cell? ⟨wq.heap.size, 1, none⟩ = some (.int .i64 r) ∧ w'.cell? ⟨wq.heap.size, 2, none⟩ = some (.int .i64 by_) ∧ w'.cell? ⟨wx.heap.size + 1, l, none⟩ = some (.int .i64 (num K l)) ∧ w'.cell? ⟨wx.heap.size + 1, r, none⟩ = some (.int .i64 (num K r))) 16 (by kernel_rfl) (by kernel_rfl) hS0 (fun hHeld => ?_)
                        refine wpAnyD_take 0 (v := ?_) rfl (by kernel_rfl) (by kernel_rfl) (by kernel_rfl) (fun _ _ _ h => h) hHeld (Or.inl ⟨by rfl, ?_⟩) ?_
                        rotate_left
                        · rintro w' ⟨y1, y2, y3, y4, y5, y6⟩; go_simp; try with_reducible rfl
                        try simp only [Act.put, List.setIfInBounds_toArray, List.set_cons_zero, List.set_cons_succ]
                        refine wpAnyD_take 1 (v := ?_) rfl (by kernel_rfl) (by kernel_rfl) (by kernel_rfl) (fun _ _ _ h => h) hHeld (Or.inl ⟨by rfl, ?_⟩) ?_
                        rotate_left
                        · rintro w' ⟨y1, y2, y3, y4, y5, y6⟩; go_simp; try with_reducible rfl
                        try simp only [Act.put, List.setIfInBounds_toArray, List.set_cons_zero, List.set_cons_succ]
                        refine wpAnyD_take 2 (v := ?_) rfl (by kernel_rfl) (by kernel_rfl) (by kernel_rfl) (fun _ _ _ h => h) hHeld (Or.inl ⟨by rfl, ?_⟩) ?_
                        rotate_left
                        · rintro w' ⟨y1, y2, y3, y4, y5, y6⟩; go_simp; try with_reducible rfl
                        try simp only [Act.put, List.setIfInBounds_toArray, List.set_cons_zero, List.set_cons_succ]
                        refine wpAnyD_take 3 (v := ?_) rfl (by kernel_rfl) (by kernel_rfl) (by kernel_rfl) (fun _ _ _ h => h) hHeld (Or.inl ⟨by rfl, ?_⟩) ?_
                        rotate_left
                        · rintro w' ⟨y1, y2, y3, y4, y5, y6⟩; go_simp; try with_reducible rfl
                        try simp only [Act.put, List.setIfInBounds_toArray, List.set_cons_zero, List.set_cons_succ]
                        refine wpAnyD_take 4 (v := ?_) rfl (by kernel_rfl) (by kernel_rfl) (by kernel_rfl) (fun _ _ _ h => h) hHeld (Or.inl ⟨by rfl, ?_⟩) ?_
                        rotate_left
                        · rintro w' ⟨y1, y2, y3, y4, y5, y6⟩; go_simp; try with_reducible rfl
                        try simp only [Act.put, List.setIfInBounds_toArray, List.set_cons_zero, List.set_cons_succ]
                        refine wpAnyD_take 5 (v := ?_) rfl (by kernel_rfl) (by kernel_rfl) (by kernel_rfl) (fun _ _ _ h => h) hHeld (Or.inl ⟨by rfl, ?_⟩) ?_
                        rotate_left
                        · rintro w' ⟨y1, y2, y3, y4, y5, y6⟩; go_simp; try with_reducible rfl
                        try simp only [Act.put, List.setIfInBounds_toArray, List.set_cons_zero, List.set_cons_succ]
                        refine wpAnyD_take 6 (v := ?_) rfl (by kernel_rfl) (by kernel_rfl) (by kernel_rfl) (fun _ _ _ h => h) hHeld (Or.inl ⟨by rfl, ?_⟩) ?_
                        rotate_left
                        · rintro w' ⟨y1, y2, y3, y4, y5, y6⟩; go_simp; try with_reducible rfl
                        try simp only [Act.put, List.setIfInBounds_toArray, List.set_cons_zero, List.set_cons_succ]
                        refine wpAnyD_take 7 (v := ?_) rfl (by kernel_rfl) (by kernel_rfl) (by kernel_rfl) (fun _ _ _ h => h) hHeld (Or.inl ⟨by rfl, ?_⟩) ?_
                        rotate_left
                        · rintro w' ⟨y1, y2, y3, y4, y5, y6⟩; go_simp; try with_reducible rfl
                        try simp only [Act.put, List.setIfInBounds_toArray, List.set_cons_zero, List.set_cons_succ]
                        refine wpAnyD_take 8 (v := ?_) rfl (by kernel_rfl) (by kernel_rfl) (by kernel_rfl) (fun _ _ _ h => h) hHeld (Or.inl ⟨by rfl, ?_⟩) ?_
                        rotate_left
                        · rintro w' ⟨y1, y2, y3, y4, y5, y6⟩; go_simp; try with_reducible rfl
                        try simp only [Act.put, List.setIfInBounds_toArray, List.set_cons_zero, List.set_cons_succ]
                        refine wpAnyD_take 9 (v := ?_) rfl (by kernel_rfl) (by kernel_rfl) (by kernel_rfl) (fun _ _ _ h => h) hHeld (Or.inl ⟨by rfl, ?_⟩) ?_
                        rotate_left
                        · rintro w' ⟨y1, y2, y3, y4, y5, y6⟩; go_simp; try with_reducible rfl
                        try simp only [Act.put, List.setIfInBounds_toArray, List.set_cons_zero, List.set_cons_succ]
                        refine wpAnyD_take 10 (v := ?_) rfl (by kernel_rfl) (by kernel_rfl) (by kernel_rfl) (fun _ _ _ h => h) hHeld (Or.inl ⟨by rfl, ?_⟩) ?_
                        rotate_left
                        · rintro w' ⟨y1, y2, y3, y4, y5, y6⟩; go_simp; try with_reducible rfl
                        try simp only [Act.put, List.setIfInBounds_toArray, List.set_cons_zero, List.set_cons_succ]
                        refine wpAnyD_take 11 (v := ?_) rfl (by kernel_rfl) (by kernel_rfl) (by kernel_rfl) (fun _ _ _ h => h) hHeld (Or.inl ⟨by rfl, ?_⟩) ?_
                        rotate_left
                        · rintro w' ⟨y1, y2, y3, y4, y5, y6⟩; go_simp; try with_reducible rfl
                        try simp only [Act.put, List.setIfInBounds_toArray, List.set_cons_zero, List.set_cons_succ]
                        refine wpAnyD_take 12 (v := ?_) rfl (by kernel_rfl) (by kernel_rfl) (by kernel_rfl) (fun _ _ _ h => h) hHeld (Or.inl ⟨by rfl, ?_⟩) ?_
                        rotate_left
                        · rintro w' ⟨y1, y2, y3, y4, y5, y6⟩; go_simp; try with_reducible rfl
                        try simp only [Act.put, List.setIfInBounds_toArray, List.set_cons_zero, List.set_cons_succ]
                        refine wpAnyD_take 13 (v := ?_) rfl (by kernel_rfl) (by kernel_rfl) (by kernel_rfl) (fun _ _ _ h => h) hHeld (Or.inl ⟨by rfl, ?_⟩) ?_
                        rotate_left
                        · rintro w' ⟨y1, y2, y3, y4, y5, y6⟩; go_simp; try with_reducible rfl
                        try simp only [Act.put, List.setIfInBounds_toArray, List.set_cons_zero, List.set_cons_succ]
                        refine wpAnyD_take 14 (v := ?_) rfl (by kernel_rfl) (by kernel_rfl) (by kernel_rfl) (fun _ _ _ h => h) hHeld (Or.inl ⟨by rfl, ?_⟩) ?_
                        rotate_left
                        · rintro w' ⟨y1, y2, y3, y4, y5, y6⟩; go_simp; try with_reducible rfl
                        try simp only [Act.put, List.setIfInBounds_toArray, List.set_cons_zero, List.set_cons_succ]
                        refine wpAnyD_ready [15] (by kernel_rfl) ?_
                        refine AllReadyD.cons rfl (fun KK hKK => ?_) AllReadyD.nil
                        go_simp
                        have hb31 := (Below.refl w30.heap.size w30).alloc (Nat.le_refl _) (.cells #[.int .i64 (num K l : Int), .int .i64 (num K r : Int), .int .i64 by_] 35)
                        have hs30' := hs30.out
                        have hg31 : (fun w' : World => w'.cell? ⟨wx.heap.size, 3, none⟩ = some (.slice Akv nq2 ckv) ∧ w'.cell? ⟨wq.heap.size, 0, none⟩ = some (.int .i64 l) ∧ w'.cell? ⟨wq.heap.size, 1, none⟩ = some (.int .i64 r) ∧ w'.cell? ⟨wq.heap.size, 2, none⟩ = some (.int .i64 by_) ∧ w'.cell? ⟨wx.heap.size + 1, l, none⟩ = some (.int .i64 (num K l)) ∧ w'.cell? ⟨wx.heap.size + 1, r, none⟩ = some (.int .i64 (num K r))) (w30.alloc (.cells #[.int .i64 (num K l : Int), .int .i64 (num K r : Int), .int .i64 by_] 35)).drew := ⟨(hb31.cell (p := ⟨wx.heap.size, 3, none⟩) (by show wx.heap.size < w30.heap.size; omega)).trans hS0.1, (hb31.cell (p := ⟨wq.heap.size, 0, none⟩) (by show wq.heap.size < w30.heap.size; omega)).trans hS0.2.1, (hb31.cell (p := ⟨wq.heap.size, 1, none⟩) (by show wq.heap.size < w30.heap.size; omega)).trans hS0.2.2.1, (hb31.cell (p := ⟨wq.heap.size, 2, none⟩) (by show wq.heap.size < w30.heap.size; omega)).trans hS0.2.2.2.1, (hb31.cell (p := ⟨wx.heap.size + 1, l, none⟩) (by show wx.heap.size + 1 < w30.heap.size; omega)).trans hS0.2.2.2.2.1, (hb31.cell (p := ⟨wx.heap.size + 1, r, none⟩) (by show wx.heap.size + 1 < w30.heap.size; omega)).trans hS0.2.2.2.2.2⟩
                        refine hKK.out _ _ hg31 (fun hHeld => ?_)
                        refine wpAnyD_done (by kernel_rfl) ?_
                        simp only [List.drop_succ_cons, List.drop_zero]
                        have HNew : Hid (∀ jj u, [Value.int .i64 (num K l : Int), .int .i64 (num K r : Int), .int .i64 by_][jj]? = some u → (w30.alloc (.cells #[.int .i64 (num K l : Int), .int .i64 (num K r : Int), .int .i64 by_] 35)).drew.cell? ((⟨w30.heap.size, 0, none⟩ : Addr).add jj) = some u) := fun jj u hu => news_new w30 _ _ _ rfl jj u hu
                        have HO31 : Hid ((w30.alloc (.cells #[.int .i64 (num K l : Int), .int .i64 (num K r : Int), .int .i64 by_] 35)).drew.ownsRow wm.heap.size 35 3 (.slice Akv nq2 ckv) nq2 ((kt i).flatMap kpc)) := HO30.out.alloc _
                        have HX31 : Hid (Blk (w30.alloc (.cells #[.int .i64 (num K l : Int), .int .i64 (num K r : Int), .int .i64 by_] 35)).drew wx.heap.size 26 #[.int .i64 F.unit, .slice Agv nL cgv, .slice Amv nM cmv, .slice Akv nq2 ckv]) := HX30.out.alloc _
                        have HF31 : Hid (FrS wm.heap.size (fun k => k = wx.heap.size) wm (w30.alloc (.cells #[.int .i64 (num K l : Int), .int .i64 (num K r : Int), .int .i64 by_] 35)).drew) := (HF30.out.alloc (by omega) _).drew
                        have HS31 : Hid ((w30.alloc (.cells #[.int .i64 (num K l : Int), .int .i64 (num K r : Int), .int .i64 by_] 35)).drew.heap.size = w30.heap.size + 1) := by unfold Hid; show (w30.alloc (.cells #[.int .i64 (num K l : Int), .int .i64 (num K r : Int), .int .i64 by_] 35)).heap.size = _; simp
                        clear hg31 hHeld hKK hS0 hb31
                        generalize hw31 : (w30.alloc (.cells #[.int .i64 (num K l : Int), .int .i64 (num K r : Int), .int .i64 by_] 35)).drew = w31 at *
                        clear hw31
                        have hs31 := HS31.out
                        have HOl : Hid (∀ k, (Value.slice Akv nq2 ckv).ownBlock = some k → wm.heap.size ≤ k) := fun k hk => (own_lt HO31.out k hk).1
                        have hsz31 : wm.heap.size ≤ w31.heap.size := HF31.out.size
                        go_wp2_with (at_builtin; go_must (refine wpList_pushk eKp rfl (.tmp 246) (.tmp 260) rfl wm.heap.size (.slice Akv nq2 ckv) nq2 _ rfl HO31.out ⟨w30.heap.size, 0, none⟩ 1 [.int .i64 (num K l : Int), .int .i64 (num K r : Int), .int .i64 by_] rfl rfl HNew.out (by simp [Value.oneCell']) (by omega) (by omega) (by omega) (by omega) ?_); go_must (intro v' w32 hown32 hgr32 _; have HO32 := Lib.hid hown32; have HG32 := Lib.hid hgr32; have hxk32 := (HX31.out.grown hgr32 (fun e => by have := HOl.out _ e.symm; omega)); have x3 := hxk32.cell 3; have x3f := hxk32.frozen 3; simp only [List.getElem?_toArray, List.getElem?_cons_zero, List.getElem?_cons_succ] at x3; obtain ⟨A32, c32, e32⟩ := own_form hown32; subst e32; have HX32 := Lib.hid (hxk32.put 3 (.slice A32 (nq2 + 1) c32)); clear hown32 hgr32 hxk32))
                        go_roundw
                        case rel =>
                          refine ⟨trivial, i + 1, .slice A32 (nq2 + 1) c32, by omega, by go_num, ?_, ?_, ?_⟩
                          · have := HX32.out; simpa using this
                          · have h13 := own_setCell HO32.out (p := ⟨wx.heap.size, 3, none⟩) (.inl (by show wx.heap.size < wm.heap.size; omega)) (.slice A32 (nq2 + 1) c32)
                            rw [HZ.out, List.length_append, List.flatMap_append, HNq.out]
                            simpa [kpc] using h13
                          · exact (HF31.out.grown HG32.out hsz31 fun k hk => .inl (HOl.out k hk)).put (p := ⟨wx.heap.size, 3, none⟩) (.inr rfl) _
                        case measure => simp [intOf]; omega
                    · have hik : i = F.kern.length := by omega
                      subst hik
                      obtain ⟨-, -, hbr, hbl, -, hol, -, -⟩ := hHr
                      have o0 := hok3.cell 0
                      have o1 := hok3.cell 1
                      have o2 := hok3.cell 2
                      have o3 := hok3.cell 3
                      simp only [List.getElem?_toArray, List.getElem?_cons_zero, List.getElem?_cons_succ] at o0 o1 o2 o3
                      have loq := hok3.lt
                      have hkq := HKr.out
                      have hfg := HHm.out _ hfk
                      have hV : FntV wq (fun k => wy.heap.size ≤ k) (.agg #[.int .i64 F.unit, .slice Agv nL cgv, .slice Amv nM cmv, .slice Akv (kt F.kern.length).length ckv]) (subF F cs) := by
                        refine ⟨_, _, _, rfl, HGl.out.keep hfg.size fun b hb hl => hfg.block b hl (by omega), ?_, ?_⟩
                        · have h := ((SlM.of_own HMo.out).mono (ok' := fun k => wy.heap.size ≤ k) fun k _ h => by omega).keep hfk.size fun b hb hl => hfk.block b hl (by omega)
                          rw [HMp.out] at h
                          have hn := HNM.out
                          rw [HMp.out] at hn
                          rw [hn]; exact h
                        · have h := (SlM.of_own hko).mono (ok' := fun k => wy.heap.size ≤ k) fun k _ h => by omega
                          rw [← hkq]; exact h
                      have HV := Lib.hid hV
                      have hq := hbl.size
                      have HC2 := Lib.hid (check_any _ _ _ wq hV (fun i hi => (hbl.cell (p := ⟨0, i, none⟩) h0).trans (HT.out i hi)) (by omega))
                      have HPz : Hid (∀ w', checkE (subF F cs) ≠ 0 → Below w.heap.size w w' → SubPost F codes w (.returned (.tuple #[.agg #[.int .i64 0, .slice none 0 0, .slice none 0 0, .slice none 0 0], .slice none 0 0, .int .i64 (checkE (subF F cs))])) w') := fun w' he h => by
                        refine ⟨(zeroF, [], checkE (subF F cs)), _, _, ?_, rfl, zero_fnt _ _, nil_sl _ _, h⟩
                        unfold SubIs
                        rw [if_neg (fun h => h HOk0.out), if_neg (by rw [HCl.out]; omega)]
                        exact ⟨cs, HCs.out, by unfold subA; rw [if_neg he]⟩
                      have HPo : Hid (∀ w' v vo, checkE (subF F cs) = 0 → FntV w' (fun k => w.heap.size ≤ k) v (subF F cs) → Sl w' (fun k => w.heap.size ≤ k) vo (ints (old.map Int.ofNat)) → Below w.heap.size w w' → SubPost F codes w (.returned (.tuple #[v, vo, .int .i64 0])) w') := fun w' v vo he hv hvo h => by
                        refine ⟨(subF F cs, old, 0), v, vo, ?_, rfl, hv, hvo, h⟩
                        unfold SubIs
                        rw [if_neg (fun h => h HOk0.out), if_neg (by rw [HCl.out]; omega)]
                        exact ⟨cs, HCs.out, by unfold subA; rw [if_pos he, HKK.out, HOe.out]⟩
                      have HBr := Lib.hid hbr
                      have HBl := Lib.hid hbl
                      have HOl := Lib.hid hol
                      have HOk4 := Lib.hid hok3
                      generalize hnq : (kt F.kern.length).length = nq2 at *
                      clear hV hbr hbl hol hok3 hfg hko hfk hkq hkl2 hnq
                      generalize checkE (subF F cs) = e1 at *
                      generalize SubPost F codes w = Q at *
                      go_wp2_with fail
                      refine HC2.out.mono ?_
                      rintro e w33 ⟨rfl, hb33⟩
                      have hrb : Blk w33 (w.heap.size + 1) _ _ := HBr.out.below hb33 HBr.out.lt
                      have lrb := hrb.lt
                      have k0 := hrb.cell 0
                      have k1 := hrb.cell 1
                      have k2 := hrb.cell 2
                      have k3 := hrb.cell 3
                      have f0 := hrb.frozen 0
                      have f1 := hrb.frozen 1
                      have f2 := hrb.frozen 2
                      have f3 := hrb.frozen 3
                      simp only [List.getElem?_toArray, List.getElem?_cons_zero, List.getElem?_cons_succ] at k0 k1 k2 k3
                      have HB33 : Hid (Below w.heap.size w w33) := HBl.out.trans (hb33.mono hq)
                      have HV33 : Hid (FntV w33 (fun k => wy.heap.size ≤ k) _ (subF F cs)) := HV.out.later hb33
                      have HOl33 := Lib.hid (HOl.out.later hb33)
                      have hok33 := HOk4.out.below hb33 HOk4.out.lt
                      have lok33 := hok33.lt
                      have o0 := hok33.cell 0
                      have o1 := hok33.cell 1
                      have o2 := hok33.cell 2
                      have o3 := hok33.cell 3
                      simp only [List.getElem?_toArray, List.getElem?_cons_zero, List.getElem?_cons_succ] at o0 o1 o2 o3
                      have hne : wx.heap.size ≠ w.heap.size + 1 := by omega
                      clear hb33 hrb hok33
                      by_cases he : e1 = 0
                      · subst he
                        go_wp2
                        refine bodyPost_ret (v := .tuple #[.agg #[.int .i64 F.unit, .slice Agv nL cgv, .slice Amv nM cmv, .slice Akv nq2 ckv], .slice Ao no co, .int .i64 0]) (by simp [results, Tryd.results18, go_sem, World.cell?_setCell_other, World.cell?_setCell_same, k0, k1, k2, k3]) rfl ?_
                        have hfin := ((((FrS.refl w33.heap.size (fun k => k = w.heap.size + 1) w33).put (p := ⟨w.heap.size + 1, 0, none⟩) (.inr rfl) (.int .i64 F.unit)).put (p := ⟨w.heap.size + 1, 1, none⟩) (.inr rfl) (.slice Agv nL cgv)).put (p := ⟨w.heap.size + 1, 2, none⟩) (.inr rfl) (.slice Amv nM cmv)).put (p := ⟨w.heap.size + 1, 3, none⟩) (.inr rfl) (.slice Akv nq2 ckv)
                        refine HPo.out _ _ _ (by trivial) ((HV33.out.keep hfin.size fun b hb hl => hfin.block b hl (by omega)).mono fun b _ hb => by omega) ?_ ((((HB33.out.setCell (p := ⟨w.heap.size + 1, 0, none⟩) (by show w.heap.size ≤ w.heap.size + 1; omega) _).setCell (p := ⟨w.heap.size + 1, 1, none⟩) (by show w.heap.size ≤ w.heap.size + 1; omega) _).setCell (p := ⟨w.heap.size + 1, 2, none⟩) (by show w.heap.size ≤ w.heap.size + 1; omega) _).setCell (p := ⟨w.heap.size + 1, 3, none⟩) (by show w.heap.size ≤ w.heap.size + 1; omega) _)
                        exact Sl.of_m ((HOl33.out.keep hfin.size fun b hb hl => hfin.block b hl (by omega)).mono fun b _ hb => by omega) (by rw [ints_length, List.length_map]; exact HNo.out)
                      · go_wp2
                        refine bodyPost_ret (v := .tuple #[.agg #[.int .i64 0, .slice none 0 0, .slice none 0 0, .slice none 0 0], .slice none 0 0, .int .i64 e1]) (by simp [results, Tryd.results18, go_sem, World.cell?_setCell_other, World.cell?_setCell_same, k0, k1, k2, k3]) rfl (HPz.out _ he ?_)
                        exact (((HB33.out.setCell (p := ⟨w.heap.size + 1, 0, none⟩) (by show w.heap.size ≤ w.heap.size + 1; omega) _).setCell (p := ⟨w.heap.size + 1, 1, none⟩) (by show w.heap.size ≤ w.heap.size + 1; omega) _).setCell (p := ⟨w.heap.size + 1, 2, none⟩) (by show w.heap.size ≤ w.heap.size + 1; omega) _).setCell (p := ⟨w.heap.size + 1, 3, none⟩) (by show w.heap.size ≤ w.heap.size + 1; omega) _
end Go.Proofs.YtefkglmdkjkbiaaDoor
