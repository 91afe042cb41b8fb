/- The walk of slices.Insert (printed by gen_ins.py). The walk of slices.Insert (printed by gen_ins.py). -/
import Derived.Test.YthbdhijkdldmoaaGreatDoorTokSmall
import Derived.Deep.RegionLaw
import Derived.BigRegion
import Derived.Deep.DeepMust
import Derived.Says
import Derived.Deep.DeepCutAuto
import Derived.Deep.CutBlock
namespace Go.Proofs.YthbdhijkdldmoaaGreatDoor
open Go.RowKit
theorem insRowS : (Tryz.prog.info? 9).map (fun i => (i.zero, i.size, i.bytes)) = some (some (Value.string ⟨#[]⟩), 1, 16) := by kernel_rfl
theorem insSzS (w : World) : (Go.sizeOf 9).run Tryz.prog w = .ok 1 w := by kernel_rfl
theorem insOvS (w : World) (a b : Addr) (la ca lb cb : Nat) (hne : a.block ≠ b.block) (tA tB : TypeId) (kA kB : Nat) (hsa : w.shape? a.block = some (tA, kA)) (hsb : w.shape? b.block = some (tB, kB)) (hkB : kB ≠ 0) (hfa : w.frozen? a = false) (hfe : w.frozen? { block := a.block, off := kA } = false) :
    (callFunc 54 #[.slice (some a) la ca, .slice (some b) lb cb]).run Tryz.prog w = .ok (.value (.bool false)) w := by
  rw [run_callFunc_extern Tryz.func54 (by kernel_rfl) (by kernel_rfl) (by kernel_rfl) (e := Extern.SlicesOverlaps.overlaps #[22, 22] #[4]) (by kernel_rfl),
    Lib.run_overlaps_apart w 22 4 9 Tryz.underlying22 1 insSzS a b la ca lb cb hne tA tB kA kB hsa hsb hkB hfa hfe]
  rfl
set_option maxHeartbeats 4000000 in
set_option maxRecDepth 100000 in
theorem insRoomS (B g n cap i vb vc : Nat) (cur : Array Value) (xs us : List Value) (w : World) (hcur : w.heap[g]? = some (.cells cur 9 (0, 0))) (hcz : cur.size = cap * 1) (hB : B ≤ g) (hi : i < n) (hroom : n + 1 ≤ cap) (hm : cap ≤ maxLen)
    (hx : cur.toList.take (n * 1) = xs) (hxl : xs.length = n * 1) (hvb : Blk w vb 9 us.toArray) (hne : vb ≠ g) (hus : us.length = 1) (h1x : ∀ v ∈ xs, v.oneCell' = true) (h1u : ∀ v ∈ us, v.oneCell' = true) :
    Calls Tryz.prog 30 #[.slice (some ⟨g, 0, none⟩) n cap, .int .i64 i, .slice (some ⟨vb, 0, none⟩) 1 vc] w (InsPost B 9 1 (.slice (some ⟨g, 0, none⟩) n cap) n i xs us w) := by
  unfold maxLen at hm
  obtain ⟨i0, hi0, hz0, hzs, hzb⟩ := info_parts insRowS
  have hsz : (Tryz.prog.info? 9).map (·.size) = some 1 := by rw [hi0]; simp [hzs]
  have hcs : ∀ j v, xs[j]? = some v → w.cell? ⟨g, j, none⟩ = some v := fun j v hv => by
    rw [cell_of_row w g j cur _ _ hcur]
    rw [← hx, List.getElem?_take] at hv
    split at hv
    · simpa using hv
    · cases hv
  have hsp : ∀ j, j < cap * 1 → (w.cell? ⟨g, j, none⟩).isSome = true := fun j hj => by
    rw [cell_of_row w g j cur _ _ hcur, Array.getElem?_eq_getElem (by omega)]; rfl
  have hfz : ∀ j, w.frozen? ⟨g, j, none⟩ = false := fun j => by simp [World.frozen?, hcur]
  have hov : ∀ lb cb, (callFunc 54 #[.slice (some ⟨vb, 0, none⟩) 1 vc, .slice (some ⟨g, i + 1, none⟩) lb cb]).run Tryz.prog w = .ok (.value (.bool false)) w := fun lb cb =>
    insOvS w ⟨vb, 0, none⟩ ⟨g, i + 1, none⟩ 1 vc lb cb hne 9 9 1 (cap * 1) (by simp [World.shape?, show w.heap[vb]? = _ from hvb, hus]) (by simp [World.shape?, hcur, hcz]) (by omega) (Blk.frozen hvb 0) (Blk.frozen hvb 1)
  have hdl : (xs.drop (i * 1)).length = (n - i) * 1 := by rw [List.length_drop, hxl]; omega
  have hcp1 : ∀ ty dc sc, (Builtin.copy_ #[22, 22] ty #[.slice (some ⟨g, i + 1, none⟩) (n - i) dc, .slice (some ⟨g, i, none⟩) (n + 1 - i) sc]).run Tryz.prog w.drew = .ok (goInt (n - i)) (w.drew.setCells g (i + 1) (xs.drop (i * 1))) := fun ty dc sc => by
    have h := run_copy_cellsK (P := Tryz.prog) w.drew 22 22 ty 9 g (i + 1) (n - i) dc ⟨g, i, none⟩ (n + 1 - i) sc 1 (xs.drop (i * 1)) Tryz.underlying22 hsz (by rw [hdl]; congr 1; simp only [Nat.min_def]; split <;> omega)
      (fun j v hj => by rw [add_plain]; exact hcs _ v (by rw [List.getElem?_drop] at hj; have e : i + j = i * 1 + j := by omega
                                                          rwa [e])) (fun j hj => hsp _ (by omega)) (fun j _ => hfz _) (fun v hv => h1x v (List.mem_of_mem_drop hv))
    rw [h]; congr 2; simp only [Nat.min_def]; split <;> omega
  obtain ⟨W1, hW1⟩ : ∃ W1, W1 = w.drew.setCells g (i + 1) (xs.drop (i * 1)) := ⟨_, rfl⟩
  have hsp1 : ∀ k, k < cap * 1 → (W1.cell? ⟨g, k, none⟩).isSome = true := fun k hk => by
    rw [hW1]
    exact isSome_setCells g (xs.drop (i * 1)) (i + 1) w.drew (fun j hj => hsp _ (by rw [hdl] at hj; omega)) _ (hsp k hk)
  have hcp2 : ∀ (W : World), (∀ x, W.cell? x = W1.cell? x) → (∀ x, W.frozen? x = W1.frozen? x) → ∀ ty dc, (Builtin.copy_ #[22, 22] ty #[.slice (some ⟨g, i, none⟩) (n + 1 - i) dc, .slice (some ⟨vb, 0, none⟩) 1 vc]).run Tryz.prog W = .ok (goInt 1) (W.setCells g (i) us) := fun W hWc hWf ty dc => by
    have h := run_copy_cellsK (P := Tryz.prog) W 22 22 ty 9 g (i) (n + 1 - i) dc ⟨vb, 0, none⟩ 1 vc 1 us Tryz.underlying22 hsz (by rw [hus]; simp only [Nat.min_def]; split <;> omega)
      (fun j v hj => by
        rw [add_plain, Nat.zero_add, hWc, hW1, World.cell?_setCells_out g _ _ _ _ (fun h _ => absurd h hne)]
        show w.cell? _ = _
        rw [Blk.cell hvb j]; simpa using hj)
      (fun j hj => by rw [hWc]; exact hsp1 _ (by omega)) (fun j hj => by rw [hWf, hW1, World.frozen?_setCells]; exact hfz _) h1u
    rw [h]; congr 2; simp only [Nat.min_def]; split <;> omega
  have HFin : Hid (∀ W : World, W = W1.setCells g (i) us → InsPost B 9 1 (.slice (some ⟨g, 0, none⟩) n cap) n i xs us w (.returned (.slice (some ⟨g, 0, none⟩) (n + 1) cap)) W) := fun W hW => by
    obtain ⟨c1, h1, h2⟩ := setCells_block g (xs.drop (i * 1)) (i + 1) w.drew cur _ _ hcur
    rw [← hW1] at h1
    obtain ⟨c2, h3, h4⟩ := setCells_block g us (i) W1 c1 _ _ h1
    rw [← hW] at h3
    have hcell : ∀ k, c2[k]? = W.cell? ⟨g, k, none⟩ := fun k => (cell_of_row W g k c2 _ _ h3).symm
    have hout : ∀ k, (k < i ∨ i + us.length ≤ k) → W.cell? ⟨g, k, none⟩ = W1.cell? ⟨g, k, none⟩ := fun k hk => by
      rw [hW]; exact World.cell?_setCells_out g _ _ _ _ fun _ _ => hk
    have hout1 : ∀ k, (k < i + 1 ∨ i + 1 + (xs.drop (i * 1)).length ≤ k) → W1.cell? ⟨g, k, none⟩ = w.cell? ⟨g, k, none⟩ := fun k hk => by
      rw [hW1]; exact World.cell?_setCells_out g _ _ w.drew _ fun _ _ => hk
    refine ⟨_, rfl, ⟨?_, .inr ⟨g, cap, c2, rfl, hB, h3, hroom, by unfold maxLen; omega, by omega, ?_⟩⟩, ?_, .inl rfl⟩
    · rw [List.length_append, List.length_append, List.length_take, List.length_drop, hxl, hus]; omega
    · rw [show (n + 1) * 1 = n * 1 + 1 by omega]
      refine ins_list hxl hus (by omega) (fun k hk => ?_) (fun k hk => ?_) (fun k h5 h6 => ?_)
      · rw [hcell, hout k (.inl (by omega)), hout1 k (.inl (by omega))]
        have h7 : xs[k]? = some (xs[k]'(by omega)) := List.getElem?_eq_getElem _
        rw [h7]; exact hcs k _ h7
      · rw [hcell, hW]
        have h7 := World.cell?_setCells_in g us (i) W1 (fun j hj => hsp1 _ (by omega)) k (by omega)
        rw [List.getElem?_eq_getElem (by omega), ← h7]
        all_goals (congr 2; omega)
      · rw [hcell, hout (k + 1) (.inr (by omega)), hW1]
        have h7 := World.cell?_setCells_in g (xs.drop (i * 1)) (i + 1) w.drew (fun j hj => hsp _ (by omega)) (k - i * 1) (by omega)
        have h8 : xs[k]? = some (xs[k]'(by omega)) := List.getElem?_eq_getElem _
        rw [show k + 1 = i + 1 + (k - i * 1) by omega, h7, h8, List.getElem_drop]
        congr 2; omega
    · rw [hW, hW1]
      exact setCells_frs (setCells_frs (FrS.refl w.heap.size (fun k => (Value.slice (some ⟨g, 0, none⟩) n cap).ownBlock = some k) w).drew (.inr rfl) _ _) (.inr rfl) _ _
  have HE : Hid (∀ x, W1.cell? x = W1.cell? x) := fun _ => rfl
  rw [← hW1] at hcp1
  have hz2 : ¬ ((i : Int) = (n : Int)) := by omega
  have hw1 : IntKind.i64.wrap ((i : Int) + 1) = (i : Int) + 1 := by rw [IntKind.wrap_i64]; omega
  have hb1 : (0 : Int) ≤ (i : Int) + 1 := by omega
  have hin : i ≤ n := by omega
  have htn : ((i : Int) + 1).toNat = i + 1 := by omega
  have hb2 : ¬ (cap = i + 1) := by omega
  have hb3 : (i : Int) ≤ (n : Int) + 1 := by omega
  have hb4 : ¬ (cap = i) := by omega
  have hb5 : n + 1 - (i + 1) = n - i := by omega
  have hcapn : ¬ ((cap : Int) < (n : Int) + 1) := by omega
  have HW1 := Lib.hid hW1
  clear hx hcs hsp hfz hcz hcur hvb hne hdl hsp1 hW1 h1x h1u hi0 hz0 hzs hzb hsz
  go_enter Tryz.func30, Tryz.ntmps30
  go_wp2_with (simp only [hov])
  go_region_law (refine step_copy_runI rfl _ _ 22 22 rfl _ _ (by simp [Act.eval, Act.put]) (by simp [Act.eval, Act.put]) (hcp1 _ _ _) ?_)
  have hcp3 := hcp2 W1 (fun _ => rfl) (fun _ => rfl)
  go_wp2_with fail
  go_ret
  exact HFin.out _ rfl
set_option maxHeartbeats 4000000 in
set_option maxRecDepth 100000 in
theorem insGrowS (B g n cap i vb vc : Nat) (cur : Array Value) (xs us : List Value) (w : World) (hcur : w.heap[g]? = some (.cells cur 9 (0, 0))) (hBw : B ≤ w.heap.size) (hi : i < n) (hnc : n ≤ cap) (hroom : cap < n + 1) (hbig : (n + 1) * 16 ≤ 140737488355328)
    (hx : cur.toList.take (n * 1) = xs) (hxl : xs.length = n * 1) (hvb : Blk w vb 9 us.toArray) (hus : us.length = 1) (h1x : ∀ v ∈ xs, v.oneCell' = true) (h1u : ∀ v ∈ us, v.oneCell' = true) :
    Calls Tryz.prog 30 #[.slice (some ⟨g, 0, none⟩) n cap, .int .i64 i, .slice (some ⟨vb, 0, none⟩) 1 vc] w (InsPost B 9 1 (.slice (some ⟨g, 0, none⟩) n cap) n i xs us w) := by
  obtain ⟨i0, hi0, hz0, hzs, hzb⟩ := info_parts insRowS
  have hsz : (Tryz.prog.info? 9).map (·.size) = some 1 := by rw [hi0]; simp [hzs]
  have hcs : ∀ j v, xs[j]? = some v → w.cell? ⟨g, j, none⟩ = some v := fun j v hv => by
    rw [cell_of_row w g j cur _ _ hcur]
    rw [← hx, List.getElem?_take] at hv
    split at hv
    · simpa using hv
    · cases hv
  have hgw : g < w.heap.size := block_lt_of_cell (hcs 0 _ (List.getElem?_eq_getElem (by omega)))
  have hvw : vb < w.heap.size := Blk.lt hvb
  have hkk : (n : Int) + 1 - (i : Int) = ((n + 1 - i : Nat) : Int) := by omega
  have hik : i + (n + 1 - i) = n + 1 := by omega
  have hold : (Builtin.firstCells i0.size i (.slice (some ⟨g, 0, none⟩) i cap)).run Tryz.prog w.drew = .ok (xs.take (i * 1)).toArray w.drew := by
    rw [hzs]
    exact run_firstCells_some w.drew 1 i ⟨g, 0, none⟩ i cap (xs.take (i * 1)) (by rw [List.length_take]; omega) (fun j v hj => by
      rw [add_plain, Nat.zero_add]
      rw [List.getElem?_take] at hj
      split at hj
      · exact hcs j v hj
      · cases hj)
  have hrz : ∀ ty, (Builtin.append_ #[22, 3] ty #[.slice (some ⟨g, 0, none⟩) i cap, .int .i64 ((n : Int) + 1 - (i : Int))]).run Tryz.prog w =
      .ok (.slice (some ⟨w.heap.size, 0, none⟩) (n + 1) (grownCap w (n + 1) cap 9)) (w.drew.alloc (.cells ((xs.take (i * 1)).toArray ++ Builtin.zeroCells (Value.string ⟨#[]⟩).cells (n + 1 - i) ++ Builtin.zeroCells (Value.string ⟨#[]⟩).cells (grownCap w (n + 1) cap 9 - (n + 1))) 9)) := fun ty => by
    have h := Lib.run_append_grow_zeros w 22 3 ty 9 i0 _ .i64 .i64 Tryz.underlying22 Tryz.underlying3 hi0 hz0 (some ⟨g, 0, none⟩) i cap (xs.take (i * 1)) hold (n + 1 - i) (by omega) (by omega) (by omega) (by omega) (by rw [hzb]; omega) (by rw [hzb, hik]; exact growslice_fits hroom hbig)
    rw [hik] at h
    rw [hkk]
    exact h
  obtain ⟨G, hG⟩ : ∃ G, G = grownCap w (n + 1) cap 9 := ⟨_, rfl⟩
  have hGn : n + 1 ≤ G := by rw [hG]; exact grownCap_ge w _ _ _
  have hG63 : G ≤ 9223372036854775807 := by
    have := grownCap_le_maxLen w (n + 1) cap 9 (by unfold maxLen; omega)
    rw [← hG] at this
    unfold maxLen at this
    omega
  obtain ⟨ROW, hROW⟩ : ∃ ROW : Array Value, ROW = (xs.take (i * 1)).toArray ++ Builtin.zeroCells (Value.string ⟨#[]⟩).cells (n + 1 - i) ++ Builtin.zeroCells (Value.string ⟨#[]⟩).cells (G - (n + 1)) := ⟨_, rfl⟩
  rw [← hG] at hrz
  rw [← hROW] at hrz
  have hRz : ROW.size = G * 1 := by
    rw [hROW]
    simp only [Array.size_append, List.size_toArray, List.length_take, hxl, zeroCells_size]
    simp only [Value.cells]
    simp
    omega
  have hR1 : ∀ k, k < i * 1 → ROW[k]? = xs[k]? := fun k hk => by
    rw [hROW, Array.append_assoc, Array.getElem?_append_left (by simp [hxl]; omega)]
    rw [List.getElem?_toArray, List.getElem?_take_of_lt hk]
  obtain ⟨W1, hW1⟩ : ∃ W1, W1 = w.drew.alloc (.cells ROW 9) := ⟨_, rfl⟩
  rw [← hW1] at hrz
  have hWb : W1.heap[w.heap.size]? = some (.cells ROW 9 (0, 0)) := by rw [hW1]; exact heap_alloc_new w.drew _
  have hN : ∀ j, j < G * 1 → (W1.cell? ⟨w.heap.size, j, none⟩).isSome = true := fun j hj => by
    rw [cell_of_row W1 _ j ROW _ _ hWb, Array.getElem?_eq_getElem (by omega)]; rfl
  have hNf : ∀ j, W1.frozen? ⟨w.heap.size, j, none⟩ = false := fun j => by simp [World.frozen?, hWb]
  have hOb : ∀ j v, w.cell? ⟨g, j, none⟩ = some v → W1.cell? ⟨g, j, none⟩ = some v := fun j v h => by rw [hW1, World.cell?_alloc_past (w := w.drew) _ g j hgw]; exact h
  have hOv : ∀ j v, w.cell? ⟨vb, j, none⟩ = some v → W1.cell? ⟨vb, j, none⟩ = some v := fun j v h => by rw [hW1, World.cell?_alloc_past (w := w.drew) _ vb j hvw]; exact h
  have hcpA : ∀ (W : World), (∀ x, W.cell? x = W1.cell? x) → (∀ x, W.frozen? x = W1.frozen? x) → ∀ ty dc, (Builtin.copy_ #[22, 22] ty #[.slice (some ⟨w.heap.size, i, none⟩) (n + 1 - i) dc, .slice (some ⟨vb, 0, none⟩) 1 vc]).run Tryz.prog W = .ok (goInt 1) (W.setCells w.heap.size (i) us) := fun W hWc hWf ty dc => by
    have h := run_copy_cellsK (P := Tryz.prog) W 22 22 ty 9 w.heap.size (i) (n + 1 - i) dc ⟨vb, 0, none⟩ 1 vc 1 us Tryz.underlying22 hsz (by rw [hus]; simp only [Nat.min_def]; split <;> omega)
      (fun j v hj => by rw [add_plain, Nat.zero_add, hWc]; exact hOv _ v (by rw [Blk.cell hvb j]; simpa using hj))
      (fun j hj => by rw [hWc]; exact hN _ (by rw [hus] at hj; omega)) (fun j hj => by rw [hWf]; exact hNf _) h1u
    rw [h]; congr 2; simp only [Nat.min_def]; split <;> omega
  have hdl : (xs.drop (i * 1)).length = (n - i) * 1 := by rw [List.length_drop, hxl]; omega
  obtain ⟨W2, hW2⟩ : ∃ W2, W2 = W1.setCells w.heap.size (i) us := ⟨_, rfl⟩
  have hN2 : ∀ j, j < G * 1 → (W2.cell? ⟨w.heap.size, j, none⟩).isSome = true := fun j hj => by
    rw [hW2]; exact isSome_setCells w.heap.size us (i) W1 (fun t ht => hN _ (by rw [hus] at ht; omega)) _ (hN _ hj)
  have hcpB : ∀ (W : World), (∀ x, W.cell? x = W2.cell? x) → (∀ x, W.frozen? x = W2.frozen? x) → ∀ ty dc sc, (Builtin.copy_ #[22, 22] ty #[.slice (some ⟨w.heap.size, i + 1, none⟩) (n - i) dc, .slice (some ⟨g, i, none⟩) (n - i) sc]).run Tryz.prog W = .ok (goInt (n - i)) (W.setCells w.heap.size (i + 1) (xs.drop (i * 1))) := fun W hWc hWf ty dc sc => by
    have h := run_copy_cellsK (P := Tryz.prog) W 22 22 ty 9 w.heap.size (i + 1) (n - i) dc ⟨g, i, none⟩ (n - i) sc 1 (xs.drop (i * 1)) Tryz.underlying22 hsz (by rw [hdl]; congr 1; simp only [Nat.min_def]; split <;> omega)
      (fun j v hj => by
        rw [add_plain, hWc, hW2, World.cell?_setCells_out _ _ _ _ _ (fun h _ => absurd h (by show g ≠ w.heap.size; omega))]
        exact hOb _ v (hcs _ v (by rw [List.getElem?_drop] at hj; have e : i + j = i * 1 + j := by omega
                                   rwa [e])))
      (fun j hj => by rw [hWc]; exact hN2 _ (by rw [hdl] at hj; omega))
      (fun j hj => by rw [hWf, hW2, World.frozen?_setCells]; exact hNf _) (fun v hv => h1x v (List.mem_of_mem_drop hv))
    rw [h]; congr 2; simp only [Nat.min_def]; split <;> omega
  have HFin : Hid (∀ W : World, (∀ k : Nat, W.heap[k]? = (W2.setCells w.heap.size (i + 1) (xs.drop (i * 1))).heap[k]?) → FrS w.heap.size (fun k => (Value.slice (some ⟨g, 0, none⟩) n cap).ownBlock = some k) w W → InsPost B 9 1 (.slice (some ⟨g, 0, none⟩) n cap) n i xs us w (.returned (.slice (some ⟨w.heap.size, 0, none⟩) (n + 1) G)) W) := fun W hW hfr => by
    obtain ⟨c1, h1, h2⟩ := setCells_block w.heap.size us (i) W1 ROW _ _ hWb
    rw [← hW2] at h1
    obtain ⟨c2, h3, h4⟩ := setCells_block w.heap.size (xs.drop (i * 1)) (i + 1) W2 c1 _ _ h1
    have hcell : ∀ k, c2[k]? = (W2.setCells w.heap.size (i + 1) (xs.drop (i * 1))).cell? ⟨w.heap.size, k, none⟩ := fun k => (cell_of_row _ w.heap.size k c2 _ _ h3).symm
    have hout : ∀ k, (k < i + 1 ∨ i + 1 + (xs.drop (i * 1)).length ≤ k) → (W2.setCells w.heap.size (i + 1) (xs.drop (i * 1))).cell? ⟨w.heap.size, k, none⟩ = W2.cell? ⟨w.heap.size, k, none⟩ := fun k hk => World.cell?_setCells_out _ _ _ _ _ fun _ _ => hk
    have hout1 : ∀ k, (k < i ∨ i + us.length ≤ k) → W2.cell? ⟨w.heap.size, k, none⟩ = W1.cell? ⟨w.heap.size, k, none⟩ := fun k hk => by
      rw [hW2]; exact World.cell?_setCells_out _ _ _ _ _ fun _ _ => hk
    rw [← hW] at h3
    refine ⟨_, rfl, ⟨?_, .inr ⟨w.heap.size, G, c2, rfl, hBw, h3, hGn, by unfold maxLen; omega, by omega, ?_⟩⟩, hfr, .inr ⟨w.heap.size, rfl, Nat.le_refl _⟩⟩
    · rw [List.length_append, List.length_append, List.length_take, List.length_drop, hxl, hus]; omega
    · rw [show (n + 1) * 1 = n * 1 + 1 by omega]
      refine ins_list hxl hus (by omega) (fun k hk => ?_) (fun k hk => ?_) (fun k h5 h6 => ?_)
      · rw [hcell, hout k (.inl (by omega)), hout1 k (.inl (by omega)), cell_of_row W1 _ k ROW _ _ hWb]
        exact hR1 k hk
      · rw [hcell, hout _ (.inl (by omega)), hW2]
        have h7 := World.cell?_setCells_in w.heap.size us (i) W1 (fun j hj => hN _ (by rw [hus] at hj; omega)) k (by omega)
        rw [List.getElem?_eq_getElem (by omega), ← h7]
        all_goals (congr 2; omega)
      · rw [hcell]
        have h7 := World.cell?_setCells_in w.heap.size (xs.drop (i * 1)) (i + 1) W2 (fun j hj => hN2 _ (by rw [hdl] at hj; omega)) (k - i * 1) (by omega)
        have h8 : xs[k]? = some (xs[k]'(by omega)) := List.getElem?_eq_getElem _
        rw [show k + 1 = i + 1 + (k - i * 1) by omega, h7, h8, List.getElem_drop]
        congr 2; omega
  have HFr : Hid (FrS w.heap.size (fun k => (Value.slice (some ⟨g, 0, none⟩) n cap).ownBlock = some k) w ((((w.alloc (.cells ROW 9)).drew.setCells w.heap.size (i) us).drew).setCells w.heap.size (i + 1) (xs.drop (i * 1)))) :=
    setCells_frs (setCells_frs ((FrS.refl _ _ _).alloc (Nat.le_refl _) _).drew (.inl (Nat.le_refl _)) _ _).drew (.inl (Nat.le_refl _)) _ _
  have hE1 : ∀ x, ((w.alloc (.cells ROW 9)).drew).cell? x = W1.cell? x := fun x => by rw [hW1]; rfl
  have hE2 : ∀ x, ((w.alloc (.cells ROW 9)).drew).frozen? x = W1.frozen? x := fun x => by rw [hW1]; rfl
  have hF1 : ∀ x, (((w.alloc (.cells ROW 9)).drew.setCells w.heap.size (i) us).drew).cell? x = W2.cell? x := fun x => by rw [hW2, hW1]; rfl
  have hF2 : ∀ x, (((w.alloc (.cells ROW 9)).drew.setCells w.heap.size (i) us).drew).frozen? x = W2.frozen? x := fun x => by rw [hW2, hW1]; rfl
  have HHp : Hid (∀ k : Nat, ((((w.alloc (.cells ROW 9)).drew.setCells w.heap.size (i) us).drew).setCells w.heap.size (i + 1) (xs.drop (i * 1))).heap[k]? = (W2.setCells w.heap.size (i + 1) (xs.drop (i * 1))).heap[k]?) := fun k => by
    rw [hW2, hW1]
    have e := setCells_heap w.heap.size (xs.drop (i * 1)) (i + 1) (((w.alloc (.cells ROW 9)).drew.setCells w.heap.size (i) us).drew) ((w.drew.alloc (.cells ROW 9)).setCells w.heap.size (i) us) (setCells_heap w.heap.size us (i) (w.alloc (.cells ROW 9)).drew (w.drew.alloc (.cells ROW 9)) rfl)
    rw [e]
  rw [hW1] at hrz
  have HHrz := Lib.hid hrz
  have HcA := Lib.hid (hcpA _ hE1 hE2)
  have HcB := Lib.hid (hcpB _ hF1 hF2)
  have hz2 : ¬ ((i : Int) = (n : Int)) := by omega
  have hz3 : (cap : Int) < (n : Int) + 1 := by omega
  have hw1 : IntKind.i64.wrap ((i : Int) + 1) = (i : Int) + 1 := by rw [IntKind.wrap_i64]; omega
  have hb1 : (0 : Int) ≤ (i : Int) + 1 := by omega
  have hin : i ≤ n := by omega
  have htn : ((i : Int) + 1).toNat = i + 1 := by omega
  have hGi : ¬ (G = i) := by omega
  have hGim : ¬ (G = i + 1) := by omega
  have hci : ¬ (cap = i) := by omega
  have hb3 : (i : Int) ≤ (n : Int) := by omega
  have hb5 : n + 1 - (i + 1) = n - i := by omega
  clear hkk hik hold hROW hG hRz hR1 hWb hN hNf hOb hOv hcpA hcpB hdl hN2 hW1 hW2 hE1 hE2 hF1 hF2 hx hcs hi0 hz0 hzs hzb hsz h1x h1u hrz hcur hvb hus hxl
  go_enter Tryz.func30, Tryz.ntmps30
  have hcA := HcA.out
  go_wp2_with (at_builtin; refine Lib.wpList_append_run _ rfl _ _ _ _ rfl _ _ rfl rfl _ _ (HHrz.out _) ?_)
  have hcB := HcB.out
  go_region_law fail
  go_wp2_with fail
  go_ret
  simp only [Nat.mul_one] at HHp HFr HFin
  exact HFin.out _ HHp.out HFr.out
set_option maxHeartbeats 4000000 in
set_option maxRecDepth 100000 in
theorem insEndS (B n vb vc : Nat) (A : Option Addr) (c : Nat) (xs us : List Value) (w : World) (hown : w.ownsRow B 9 1 (.slice A n c) n xs) (hBw : B ≤ w.heap.size) (hbig : (n + 1) * 16 ≤ 140737488355328) (hvb : Blk w vb 9 us.toArray) (hus : us.length = 1) (h1u : ∀ v ∈ us, v.oneCell' = true) :
    Calls Tryz.prog 30 #[.slice A n c, .int .i64 n, .slice (some ⟨vb, 0, none⟩) 1 vc] w (InsPost B 9 1 (.slice A n c) n n xs us w) := by
  obtain ⟨i0, hi0, hz0, hzs, hzb⟩ := info_parts insRowS
  have hxl := hown.1
  have hn63 : n + 1 ≤ 9223372036854775807 := by omega
  have HOwn := Lib.hid hown
  have HXl := Lib.hid hxl
  have hcap : n ≤ c := by
    rcases hown.2 with ⟨e, e2⟩ | ⟨g, cap, cur, e, _, _, h, _⟩
    · injection e with e1 e2 e3; omega
    · injection e with e1 e2 e3; omega
  have hnil : A = none → n = 0 := fun e => by
    rcases hown.2 with ⟨_, e2⟩ | ⟨g, cap, cur, e2, _⟩
    · exact e2
    · subst e; injection e2 with e3; cases e3
  have hc63 : c ≤ 9223372036854775807 := by
    rcases hown.2 with ⟨e, e2⟩ | ⟨g, cap, cur, e, _, _, h, h2, _⟩
    · injection e with e1 e2 e3; omega
    · injection e with e1 e2 e3; unfold maxLen at h2; omega
  have HNews : Hid (∀ j u, us[j]? = some u → w.cell? ((⟨vb, 0, none⟩ : Addr).add j) = some u) := fun j u hj => by
    rw [add_plain, Nat.zero_add, Blk.cell hvb j]; simpa using hj
  have HTake : Hid (∀ W w' v', w'.ownsRow B 9 1 v' (n + 1) (xs ++ us) → w.grownBy w' (Value.slice A n c).ownBlock → (v'.ownBlock = (Value.slice A n c).ownBlock ∨ v'.ownBlock = some w.heap.size) → W = w' → InsPost B 9 1 (.slice A n c) n n xs us w (.returned v') W) := by
    rintro W w' v' h1 h2 h3 rfl
    refine ⟨v', rfl, ?_, ⟨h2.os, h2.tape, h2.output, h2.size, fun k hk hs => h2.block k hk fun e => hs e.symm⟩, h3.imp id fun h => ⟨_, h, Nat.le_refl _⟩⟩
    rw [← hxl, List.take_length, List.drop_length, List.append_nil]; exact h1
  clear hown hxl hvb
  cases A with
  | none =>
    obtain rfl := hnil rfl
    clear hnil
    go_enter Tryz.func30, Tryz.ntmps30
    go_wp2_with (at_builtin; refine wpList_append_own_at _ rfl _ _ 22 rfl B 9 i0 (Value.string ⟨#[]⟩) 1 16 Tryz.underlying22 hi0 hz0 hzs hzb rfl (by decide) (.slice none 0 c) 0 xs rfl HOwn.out ⟨vb, 0, none⟩ 1 vc us rfl (by rw [hus]) HNews.out h1u (by unfold maxLen; omega) hbig hBw ?_; intro v' w' h1 h2 h3 h4; have HF := Lib.hid (HTake.out _ _ _ h1 h2 h4 rfl); clear h1 h2 h3 h4)
    go_ret
    exact HF.out
  | some ad =>
    clear hnil
    by_cases hcn : c = n
    · subst hcn
      go_enter Tryz.func30, Tryz.ntmps30
      go_wp2_with (at_builtin; refine wpList_append_own_at _ rfl _ _ 22 rfl B 9 i0 (Value.string ⟨#[]⟩) 1 16 Tryz.underlying22 hi0 hz0 hzs hzb rfl (by decide) (.slice (some ad) c c) c xs rfl HOwn.out ⟨vb, 0, none⟩ 1 vc us rfl (by rw [hus]) HNews.out h1u (by unfold maxLen; omega) hbig hBw ?_; intro v' w' h1 h2 h3 h4; have HF := Lib.hid (HTake.out _ _ _ h1 h2 h4 rfl); clear h1 h2 h3 h4)
      go_ret
      exact HF.out
    · go_enter Tryz.func30, Tryz.ntmps30
      go_wp2_with (at_builtin; refine wpList_append_own_at _ rfl _ _ 22 rfl B 9 i0 (Value.string ⟨#[]⟩) 1 16 Tryz.underlying22 hi0 hz0 hzs hzb rfl (by decide) (.slice (some ad) n c) n xs rfl HOwn.out ⟨vb, 0, none⟩ 1 vc us rfl (by rw [hus]) HNews.out h1u (by unfold maxLen; omega) hbig hBw ?_; intro v' w' h1 h2 h3 h4; have HF := Lib.hid (HTake.out _ _ _ h1 h2 h4 rfl); clear h1 h2 h3 h4)
      go_ret
      exact HF.out
/-- slices.Insert of one value into a row of the call's own. -/
theorem insAnyS (B n i vb vc : Nat) (v : Value) (xs us : List Value) (w : World) (hown : w.ownsRow B 9 1 v n xs) (hi : i ≤ n) (hBw : B ≤ w.heap.size) (hbig : (n + 1) * 16 ≤ 140737488355328) (hvb : Blk w vb 9 us.toArray) (hne : v.ownBlock ≠ some vb) (hus : us.length = 1) (h1x : ∀ v ∈ xs, v.oneCell' = true) (h1u : ∀ v ∈ us, v.oneCell' = true) :
    Calls Tryz.prog 30 #[v, .int .i64 i, .slice (some ⟨vb, 0, none⟩) 1 vc] w (InsPost B 9 1 v n i xs us w) := by
  rcases Nat.lt_or_ge i n with hlt | hge
  · obtain ⟨hxl, ⟨-, e⟩ | ⟨g, cap, cur, rfl, hB, hh, hnc, hcm, hcz, hx⟩⟩ := hown
    · omega
    · by_cases hroom : n + 1 ≤ cap
      · exact insRoomS B g n cap i vb vc cur xs us w hh hcz hB hlt hroom hcm hx hxl hvb (fun e => hne (by rw [e]; rfl)) hus h1x h1u
      · exact insGrowS B g n cap i vb vc cur xs us w hh hBw hlt hnc (by omega) hbig hx hxl hvb hus h1x h1u
  · obtain rfl : i = n := by omega
    obtain ⟨A, c, rfl⟩ := own_form hown
    exact insEndS B i vb vc A c xs us w hown hBw hbig hvb hus h1u
end Go.Proofs.YthbdhijkdldmoaaGreatDoor
namespace Go.Proofs.YthbdhijkdldmoaaGreatDoor
open Go.RowKit
theorem insRowO : (Tryz.prog.info? 25).map (fun i => (i.zero, i.size, i.bytes)) = some (some (Value.agg #[.int .i64 0, .int .i64 0, .string ⟨#[]⟩, .slice none 0 0, .slice none 0 0]), 5, 80) := by kernel_rfl
theorem insSzO (w : World) : (Go.sizeOf 25).run Tryz.prog w = .ok 5 w := by kernel_rfl
theorem insOvO (w : World) (a b : Addr) (la ca lb cb : Nat) (hne : a.block ≠ b.block) (tA tB : TypeId) (kA kB : Nat) (hsa : w.shape? a.block = some (tA, kA)) (hsb : w.shape? b.block = some (tB, kB)) (hkB : kB ≠ 0) (hfa : w.frozen? a = false) (hfe : w.frozen? { block := a.block, off := kA } = false) :
    (callFunc 56 #[.slice (some a) la ca, .slice (some b) lb cb]).run Tryz.prog w = .ok (.value (.bool false)) w := by
  rw [run_callFunc_extern Tryz.func56 (by kernel_rfl) (by kernel_rfl) (by kernel_rfl) (e := Extern.SlicesOverlaps.overlaps #[23, 23] #[4]) (by kernel_rfl),
    Lib.run_overlaps_apart w 23 4 25 Tryz.underlying23 5 insSzO a b la ca lb cb hne tA tB kA kB hsa hsb hkB hfa hfe]
  rfl
set_option maxHeartbeats 4000000 in
set_option maxRecDepth 100000 in
theorem insRoomO (B g n cap i vb vc : Nat) (cur : Array Value) (xs us : List Value) (w : World) (hcur : w.heap[g]? = some (.cells cur 25 (0, 0))) (hcz : cur.size = cap * 5) (hB : B ≤ g) (hi : i < n) (hroom : n + 1 ≤ cap) (hm : cap ≤ maxLen)
    (hx : cur.toList.take (n * 5) = xs) (hxl : xs.length = n * 5) (hvb : Blk w vb 25 us.toArray) (hne : vb ≠ g) (hus : us.length = 5) (h1x : ∀ v ∈ xs, v.oneCell' = true) (h1u : ∀ v ∈ us, v.oneCell' = true) :
    Calls Tryz.prog 31 #[.slice (some ⟨g, 0, none⟩) n cap, .int .i64 i, .slice (some ⟨vb, 0, none⟩) 1 vc] w (InsPost B 25 5 (.slice (some ⟨g, 0, none⟩) n cap) n i xs us w) := by
  unfold maxLen at hm
  obtain ⟨i0, hi0, hz0, hzs, hzb⟩ := info_parts insRowO
  have hsz : (Tryz.prog.info? 25).map (·.size) = some 5 := by rw [hi0]; simp [hzs]
  have hcs : ∀ j v, xs[j]? = some v → w.cell? ⟨g, j, none⟩ = some v := fun j v hv => by
    rw [cell_of_row w g j cur _ _ hcur]
    rw [← hx, List.getElem?_take] at hv
    split at hv
    · simpa using hv
    · cases hv
  have hsp : ∀ j, j < cap * 5 → (w.cell? ⟨g, j, none⟩).isSome = true := fun j hj => by
    rw [cell_of_row w g j cur _ _ hcur, Array.getElem?_eq_getElem (by omega)]; rfl
  have hfz : ∀ j, w.frozen? ⟨g, j, none⟩ = false := fun j => by simp [World.frozen?, hcur]
  have hov : ∀ lb cb, (callFunc 56 #[.slice (some ⟨vb, 0, none⟩) 1 vc, .slice (some ⟨g, (i + 1) * 5, none⟩) lb cb]).run Tryz.prog w = .ok (.value (.bool false)) w := fun lb cb =>
    insOvO w ⟨vb, 0, none⟩ ⟨g, (i + 1) * 5, none⟩ 1 vc lb cb hne 25 25 5 (cap * 5) (by simp [World.shape?, show w.heap[vb]? = _ from hvb, hus]) (by simp [World.shape?, hcur, hcz]) (by omega) (Blk.frozen hvb 0) (Blk.frozen hvb 5)
  have hdl : (xs.drop (i * 5)).length = (n - i) * 5 := by rw [List.length_drop, hxl]; omega
  have hcp1 : ∀ ty dc sc, (Builtin.copy_ #[23, 23] ty #[.slice (some ⟨g, (i + 1) * 5, none⟩) (n - i) dc, .slice (some ⟨g, (i) * 5, none⟩) (n + 1 - i) sc]).run Tryz.prog w.drew = .ok (goInt (n - i)) (w.drew.setCells g ((i + 1) * 5) (xs.drop (i * 5))) := fun ty dc sc => by
    have h := run_copy_cellsK (P := Tryz.prog) w.drew 23 23 ty 25 g ((i + 1) * 5) (n - i) dc ⟨g, (i) * 5, none⟩ (n + 1 - i) sc 5 (xs.drop (i * 5)) Tryz.underlying23 hsz (by rw [hdl]; congr 1; simp only [Nat.min_def]; split <;> omega)
      (fun j v hj => by rw [add_plain]; exact hcs _ v (by rw [List.getElem?_drop] at hj; have e : (i) * 5 + j = i * 5 + j := by omega
                                                          rwa [e])) (fun j hj => hsp _ (by omega)) (fun j _ => hfz _) (fun v hv => h1x v (List.mem_of_mem_drop hv))
    rw [h]; congr 2; simp only [Nat.min_def]; split <;> omega
  obtain ⟨W1, hW1⟩ : ∃ W1, W1 = w.drew.setCells g ((i + 1) * 5) (xs.drop (i * 5)) := ⟨_, rfl⟩
  have hsp1 : ∀ k, k < cap * 5 → (W1.cell? ⟨g, k, none⟩).isSome = true := fun k hk => by
    rw [hW1]
    exact isSome_setCells g (xs.drop (i * 5)) ((i + 1) * 5) w.drew (fun j hj => hsp _ (by rw [hdl] at hj; omega)) _ (hsp k hk)
  have hcp2 : ∀ (W : World), (∀ x, W.cell? x = W1.cell? x) → (∀ x, W.frozen? x = W1.frozen? x) → ∀ ty dc, (Builtin.copy_ #[23, 23] ty #[.slice (some ⟨g, (i) * 5, none⟩) (n + 1 - i) dc, .slice (some ⟨vb, 0, none⟩) 1 vc]).run Tryz.prog W = .ok (goInt 1) (W.setCells g ((i) * 5) us) := fun W hWc hWf ty dc => by
    have h := run_copy_cellsK (P := Tryz.prog) W 23 23 ty 25 g ((i) * 5) (n + 1 - i) dc ⟨vb, 0, none⟩ 1 vc 5 us Tryz.underlying23 hsz (by rw [hus]; simp only [Nat.min_def]; split <;> omega)
      (fun j v hj => by
        rw [add_plain, Nat.zero_add, hWc, hW1, World.cell?_setCells_out g _ _ _ _ (fun h _ => absurd h hne)]
        show w.cell? _ = _
        rw [Blk.cell hvb j]; simpa using hj)
      (fun j hj => by rw [hWc]; exact hsp1 _ (by omega)) (fun j hj => by rw [hWf, hW1, World.frozen?_setCells]; exact hfz _) h1u
    rw [h]; congr 2; simp only [Nat.min_def]; split <;> omega
  have HFin : Hid (∀ W : World, W = W1.setCells g ((i) * 5) us → InsPost B 25 5 (.slice (some ⟨g, 0, none⟩) n cap) n i xs us w (.returned (.slice (some ⟨g, 0, none⟩) (n + 1) cap)) W) := fun W hW => by
    obtain ⟨c1, h1, h2⟩ := setCells_block g (xs.drop (i * 5)) ((i + 1) * 5) w.drew cur _ _ hcur
    rw [← hW1] at h1
    obtain ⟨c2, h3, h4⟩ := setCells_block g us ((i) * 5) W1 c1 _ _ h1
    rw [← hW] at h3
    have hcell : ∀ k, c2[k]? = W.cell? ⟨g, k, none⟩ := fun k => (cell_of_row W g k c2 _ _ h3).symm
    have hout : ∀ k, (k < (i) * 5 ∨ (i) * 5 + us.length ≤ k) → W.cell? ⟨g, k, none⟩ = W1.cell? ⟨g, k, none⟩ := fun k hk => by
      rw [hW]; exact World.cell?_setCells_out g _ _ _ _ fun _ _ => hk
    have hout1 : ∀ k, (k < (i + 1) * 5 ∨ (i + 1) * 5 + (xs.drop (i * 5)).length ≤ k) → W1.cell? ⟨g, k, none⟩ = w.cell? ⟨g, k, none⟩ := fun k hk => by
      rw [hW1]; exact World.cell?_setCells_out g _ _ w.drew _ fun _ _ => hk
    refine ⟨_, rfl, ⟨?_, .inr ⟨g, cap, c2, rfl, hB, h3, hroom, by unfold maxLen; omega, by omega, ?_⟩⟩, ?_, .inl rfl⟩
    · rw [List.length_append, List.length_append, List.length_take, List.length_drop, hxl, hus]; omega
    · rw [show (n + 1) * 5 = n * 5 + 5 by omega]
      refine ins_list hxl hus (by omega) (fun k hk => ?_) (fun k hk => ?_) (fun k h5 h6 => ?_)
      · rw [hcell, hout k (.inl (by omega)), hout1 k (.inl (by omega))]
        have h7 : xs[k]? = some (xs[k]'(by omega)) := List.getElem?_eq_getElem _
        rw [h7]; exact hcs k _ h7
      · rw [hcell, hW]
        have h7 := World.cell?_setCells_in g us ((i) * 5) W1 (fun j hj => hsp1 _ (by omega)) k (by omega)
        rw [List.getElem?_eq_getElem (by omega), ← h7]
        all_goals (congr 2; omega)
      · rw [hcell, hout (k + 5) (.inr (by omega)), hW1]
        have h7 := World.cell?_setCells_in g (xs.drop (i * 5)) ((i + 1) * 5) w.drew (fun j hj => hsp _ (by omega)) (k - i * 5) (by omega)
        have h8 : xs[k]? = some (xs[k]'(by omega)) := List.getElem?_eq_getElem _
        rw [show k + 5 = (i + 1) * 5 + (k - i * 5) by omega, h7, h8, List.getElem_drop]
        congr 2; omega
    · rw [hW, hW1]
      exact setCells_frs (setCells_frs (FrS.refl w.heap.size (fun k => (Value.slice (some ⟨g, 0, none⟩) n cap).ownBlock = some k) w).drew (.inr rfl) _ _) (.inr rfl) _ _
  have HE : Hid (∀ x, W1.cell? x = W1.cell? x) := fun _ => rfl
  rw [← hW1] at hcp1
  have hz2 : ¬ ((i : Int) = (n : Int)) := by omega
  have hw1 : IntKind.i64.wrap ((i : Int) + 1) = (i : Int) + 1 := by rw [IntKind.wrap_i64]; omega
  have hb1 : (0 : Int) ≤ (i : Int) + 1 := by omega
  have hin : i ≤ n := by omega
  have htn : ((i : Int) + 1).toNat = i + 1 := by omega
  have hb2 : ¬ (cap = i + 1) := by omega
  have hb3 : (i : Int) ≤ (n : Int) + 1 := by omega
  have hb4 : ¬ (cap = i) := by omega
  have hb5 : n + 1 - (i + 1) = n - i := by omega
  have hcapn : ¬ ((cap : Int) < (n : Int) + 1) := by omega
  have HW1 := Lib.hid hW1
  clear hx hcs hsp hfz hcz hcur hvb hne hdl hsp1 hW1 h1x h1u hi0 hz0 hzs hzb hsz
  go_enter Tryz.func31, Tryz.ntmps31
  go_wp2_with (simp only [hov])
  go_region_law (refine step_copy_runI rfl _ _ 23 23 rfl _ _ (by simp [Act.eval, Act.put]) (by simp [Act.eval, Act.put]) (hcp1 _ _ _) ?_)
  have hcp3 := hcp2 W1 (fun _ => rfl) (fun _ => rfl)
  go_wp2_with fail
  go_ret
  exact HFin.out _ rfl
set_option maxHeartbeats 4000000 in
set_option maxRecDepth 100000 in
theorem insGrowO (B g n cap i vb vc : Nat) (cur : Array Value) (xs us : List Value) (w : World) (hcur : w.heap[g]? = some (.cells cur 25 (0, 0))) (hBw : B ≤ w.heap.size) (hi : i < n) (hnc : n ≤ cap) (hroom : cap < n + 1) (hbig : (n + 1) * 80 ≤ 140737488355328)
    (hx : cur.toList.take (n * 5) = xs) (hxl : xs.length = n * 5) (hvb : Blk w vb 25 us.toArray) (hus : us.length = 5) (h1x : ∀ v ∈ xs, v.oneCell' = true) (h1u : ∀ v ∈ us, v.oneCell' = true) :
    Calls Tryz.prog 31 #[.slice (some ⟨g, 0, none⟩) n cap, .int .i64 i, .slice (some ⟨vb, 0, none⟩) 1 vc] w (InsPost B 25 5 (.slice (some ⟨g, 0, none⟩) n cap) n i xs us w) := by
  obtain ⟨i0, hi0, hz0, hzs, hzb⟩ := info_parts insRowO
  have hsz : (Tryz.prog.info? 25).map (·.size) = some 5 := by rw [hi0]; simp [hzs]
  have hcs : ∀ j v, xs[j]? = some v → w.cell? ⟨g, j, none⟩ = some v := fun j v hv => by
    rw [cell_of_row w g j cur _ _ hcur]
    rw [← hx, List.getElem?_take] at hv
    split at hv
    · simpa using hv
    · cases hv
  have hgw : g < w.heap.size := block_lt_of_cell (hcs 0 _ (List.getElem?_eq_getElem (by omega)))
  have hvw : vb < w.heap.size := Blk.lt hvb
  have hkk : (n : Int) + 1 - (i : Int) = ((n + 1 - i : Nat) : Int) := by omega
  have hik : i + (n + 1 - i) = n + 1 := by omega
  have hold : (Builtin.firstCells i0.size i (.slice (some ⟨g, 0, none⟩) i cap)).run Tryz.prog w.drew = .ok (xs.take (i * 5)).toArray w.drew := by
    rw [hzs]
    exact run_firstCells_some w.drew 5 i ⟨g, 0, none⟩ i cap (xs.take (i * 5)) (by rw [List.length_take]; omega) (fun j v hj => by
      rw [add_plain, Nat.zero_add]
      rw [List.getElem?_take] at hj
      split at hj
      · exact hcs j v hj
      · cases hj)
  have hrz : ∀ ty, (Builtin.append_ #[23, 3] ty #[.slice (some ⟨g, 0, none⟩) i cap, .int .i64 ((n : Int) + 1 - (i : Int))]).run Tryz.prog w =
      .ok (.slice (some ⟨w.heap.size, 0, none⟩) (n + 1) (grownCap w (n + 1) cap 25)) (w.drew.alloc (.cells ((xs.take (i * 5)).toArray ++ Builtin.zeroCells (Value.agg #[.int .i64 0, .int .i64 0, .string ⟨#[]⟩, .slice none 0 0, .slice none 0 0]).cells (n + 1 - i) ++ Builtin.zeroCells (Value.agg #[.int .i64 0, .int .i64 0, .string ⟨#[]⟩, .slice none 0 0, .slice none 0 0]).cells (grownCap w (n + 1) cap 25 - (n + 1))) 25)) := fun ty => by
    have h := Lib.run_append_grow_zeros w 23 3 ty 25 i0 _ .i64 .i64 Tryz.underlying23 Tryz.underlying3 hi0 hz0 (some ⟨g, 0, none⟩) i cap (xs.take (i * 5)) hold (n + 1 - i) (by omega) (by omega) (by omega) (by omega) (by rw [hzb]; omega) (by rw [hzb, hik]; exact growslice_fits hroom hbig)
    rw [hik] at h
    rw [hkk]
    exact h
  obtain ⟨G, hG⟩ : ∃ G, G = grownCap w (n + 1) cap 25 := ⟨_, rfl⟩
  have hGn : n + 1 ≤ G := by rw [hG]; exact grownCap_ge w _ _ _
  have hG63 : G ≤ 9223372036854775807 := by
    have := grownCap_le_maxLen w (n + 1) cap 25 (by unfold maxLen; omega)
    rw [← hG] at this
    unfold maxLen at this
    omega
  obtain ⟨ROW, hROW⟩ : ∃ ROW : Array Value, ROW = (xs.take (i * 5)).toArray ++ Builtin.zeroCells (Value.agg #[.int .i64 0, .int .i64 0, .string ⟨#[]⟩, .slice none 0 0, .slice none 0 0]).cells (n + 1 - i) ++ Builtin.zeroCells (Value.agg #[.int .i64 0, .int .i64 0, .string ⟨#[]⟩, .slice none 0 0, .slice none 0 0]).cells (G - (n + 1)) := ⟨_, rfl⟩
  rw [← hG] at hrz
  rw [← hROW] at hrz
  have hRz : ROW.size = G * 5 := by
    rw [hROW]
    simp only [Array.size_append, List.size_toArray, List.length_take, hxl, zeroCells_size]
    simp only [Value.cells]
    simp
    omega
  have hR1 : ∀ k, k < i * 5 → ROW[k]? = xs[k]? := fun k hk => by
    rw [hROW, Array.append_assoc, Array.getElem?_append_left (by simp [hxl]; omega)]
    rw [List.getElem?_toArray, List.getElem?_take_of_lt hk]
  obtain ⟨W1, hW1⟩ : ∃ W1, W1 = w.drew.alloc (.cells ROW 25) := ⟨_, rfl⟩
  rw [← hW1] at hrz
  have hWb : W1.heap[w.heap.size]? = some (.cells ROW 25 (0, 0)) := by rw [hW1]; exact heap_alloc_new w.drew _
  have hN : ∀ j, j < G * 5 → (W1.cell? ⟨w.heap.size, j, none⟩).isSome = true := fun j hj => by
    rw [cell_of_row W1 _ j ROW _ _ hWb, Array.getElem?_eq_getElem (by omega)]; rfl
  have hNf : ∀ j, W1.frozen? ⟨w.heap.size, j, none⟩ = false := fun j => by simp [World.frozen?, hWb]
  have hOb : ∀ j v, w.cell? ⟨g, j, none⟩ = some v → W1.cell? ⟨g, j, none⟩ = some v := fun j v h => by rw [hW1, World.cell?_alloc_past (w := w.drew) _ g j hgw]; exact h
  have hOv : ∀ j v, w.cell? ⟨vb, j, none⟩ = some v → W1.cell? ⟨vb, j, none⟩ = some v := fun j v h => by rw [hW1, World.cell?_alloc_past (w := w.drew) _ vb j hvw]; exact h
  have hcpA : ∀ (W : World), (∀ x, W.cell? x = W1.cell? x) → (∀ x, W.frozen? x = W1.frozen? x) → ∀ ty dc, (Builtin.copy_ #[23, 23] ty #[.slice (some ⟨w.heap.size, (i) * 5, none⟩) (n + 1 - i) dc, .slice (some ⟨vb, 0, none⟩) 1 vc]).run Tryz.prog W = .ok (goInt 1) (W.setCells w.heap.size ((i) * 5) us) := fun W hWc hWf ty dc => by
    have h := run_copy_cellsK (P := Tryz.prog) W 23 23 ty 25 w.heap.size ((i) * 5) (n + 1 - i) dc ⟨vb, 0, none⟩ 1 vc 5 us Tryz.underlying23 hsz (by rw [hus]; simp only [Nat.min_def]; split <;> omega)
      (fun j v hj => by rw [add_plain, Nat.zero_add, hWc]; exact hOv _ v (by rw [Blk.cell hvb j]; simpa using hj))
      (fun j hj => by rw [hWc]; exact hN _ (by rw [hus] at hj; omega)) (fun j hj => by rw [hWf]; exact hNf _) h1u
    rw [h]; congr 2; simp only [Nat.min_def]; split <;> omega
  have hdl : (xs.drop (i * 5)).length = (n - i) * 5 := by rw [List.length_drop, hxl]; omega
  obtain ⟨W2, hW2⟩ : ∃ W2, W2 = W1.setCells w.heap.size ((i) * 5) us := ⟨_, rfl⟩
  have hN2 : ∀ j, j < G * 5 → (W2.cell? ⟨w.heap.size, j, none⟩).isSome = true := fun j hj => by
    rw [hW2]; exact isSome_setCells w.heap.size us ((i) * 5) W1 (fun t ht => hN _ (by rw [hus] at ht; omega)) _ (hN _ hj)
  have hcpB : ∀ (W : World), (∀ x, W.cell? x = W2.cell? x) → (∀ x, W.frozen? x = W2.frozen? x) → ∀ ty dc sc, (Builtin.copy_ #[23, 23] ty #[.slice (some ⟨w.heap.size, (i + 1) * 5, none⟩) (n - i) dc, .slice (some ⟨g, (i) * 5, none⟩) (n - i) sc]).run Tryz.prog W = .ok (goInt (n - i)) (W.setCells w.heap.size ((i + 1) * 5) (xs.drop (i * 5))) := fun W hWc hWf ty dc sc => by
    have h := run_copy_cellsK (P := Tryz.prog) W 23 23 ty 25 w.heap.size ((i + 1) * 5) (n - i) dc ⟨g, (i) * 5, none⟩ (n - i) sc 5 (xs.drop (i * 5)) Tryz.underlying23 hsz (by rw [hdl]; congr 1; simp only [Nat.min_def]; split <;> omega)
      (fun j v hj => by
        rw [add_plain, hWc, hW2, World.cell?_setCells_out _ _ _ _ _ (fun h _ => absurd h (by show g ≠ w.heap.size; omega))]
        exact hOb _ v (hcs _ v (by rw [List.getElem?_drop] at hj; have e : (i) * 5 + j = i * 5 + j := by omega
                                   rwa [e])))
      (fun j hj => by rw [hWc]; exact hN2 _ (by rw [hdl] at hj; omega))
      (fun j hj => by rw [hWf, hW2, World.frozen?_setCells]; exact hNf _) (fun v hv => h1x v (List.mem_of_mem_drop hv))
    rw [h]; congr 2; simp only [Nat.min_def]; split <;> omega
  have HFin : Hid (∀ W : World, (∀ k : Nat, W.heap[k]? = (W2.setCells w.heap.size ((i + 1) * 5) (xs.drop (i * 5))).heap[k]?) → FrS w.heap.size (fun k => (Value.slice (some ⟨g, 0, none⟩) n cap).ownBlock = some k) w W → InsPost B 25 5 (.slice (some ⟨g, 0, none⟩) n cap) n i xs us w (.returned (.slice (some ⟨w.heap.size, 0, none⟩) (n + 1) G)) W) := fun W hW hfr => by
    obtain ⟨c1, h1, h2⟩ := setCells_block w.heap.size us ((i) * 5) W1 ROW _ _ hWb
    rw [← hW2] at h1
    obtain ⟨c2, h3, h4⟩ := setCells_block w.heap.size (xs.drop (i * 5)) ((i + 1) * 5) W2 c1 _ _ h1
    have hcell : ∀ k, c2[k]? = (W2.setCells w.heap.size ((i + 1) * 5) (xs.drop (i * 5))).cell? ⟨w.heap.size, k, none⟩ := fun k => (cell_of_row _ w.heap.size k c2 _ _ h3).symm
    have hout : ∀ k, (k < (i + 1) * 5 ∨ (i + 1) * 5 + (xs.drop (i * 5)).length ≤ k) → (W2.setCells w.heap.size ((i + 1) * 5) (xs.drop (i * 5))).cell? ⟨w.heap.size, k, none⟩ = W2.cell? ⟨w.heap.size, k, none⟩ := fun k hk => World.cell?_setCells_out _ _ _ _ _ fun _ _ => hk
    have hout1 : ∀ k, (k < (i) * 5 ∨ (i) * 5 + us.length ≤ k) → W2.cell? ⟨w.heap.size, k, none⟩ = W1.cell? ⟨w.heap.size, k, none⟩ := fun k hk => by
      rw [hW2]; exact World.cell?_setCells_out _ _ _ _ _ fun _ _ => hk
    rw [← hW] at h3
    refine ⟨_, rfl, ⟨?_, .inr ⟨w.heap.size, G, c2, rfl, hBw, h3, hGn, by unfold maxLen; omega, by omega, ?_⟩⟩, hfr, .inr ⟨w.heap.size, rfl, Nat.le_refl _⟩⟩
    · rw [List.length_append, List.length_append, List.length_take, List.length_drop, hxl, hus]; omega
    · rw [show (n + 1) * 5 = n * 5 + 5 by omega]
      refine ins_list hxl hus (by omega) (fun k hk => ?_) (fun k hk => ?_) (fun k h5 h6 => ?_)
      · rw [hcell, hout k (.inl (by omega)), hout1 k (.inl (by omega)), cell_of_row W1 _ k ROW _ _ hWb]
        exact hR1 k hk
      · rw [hcell, hout _ (.inl (by omega)), hW2]
        have h7 := World.cell?_setCells_in w.heap.size us ((i) * 5) W1 (fun j hj => hN _ (by rw [hus] at hj; omega)) k (by omega)
        rw [List.getElem?_eq_getElem (by omega), ← h7]
        all_goals (congr 2; omega)
      · rw [hcell]
        have h7 := World.cell?_setCells_in w.heap.size (xs.drop (i * 5)) ((i + 1) * 5) W2 (fun j hj => hN2 _ (by rw [hdl] at hj; omega)) (k - i * 5) (by omega)
        have h8 : xs[k]? = some (xs[k]'(by omega)) := List.getElem?_eq_getElem _
        rw [show k + 5 = (i + 1) * 5 + (k - i * 5) by omega, h7, h8, List.getElem_drop]
        congr 2; omega
  have HFr : Hid (FrS w.heap.size (fun k => (Value.slice (some ⟨g, 0, none⟩) n cap).ownBlock = some k) w ((((w.alloc (.cells ROW 25)).drew.setCells w.heap.size ((i) * 5) us).drew).setCells w.heap.size ((i + 1) * 5) (xs.drop (i * 5)))) :=
    setCells_frs (setCells_frs ((FrS.refl _ _ _).alloc (Nat.le_refl _) _).drew (.inl (Nat.le_refl _)) _ _).drew (.inl (Nat.le_refl _)) _ _
  have hE1 : ∀ x, ((w.alloc (.cells ROW 25)).drew).cell? x = W1.cell? x := fun x => by rw [hW1]; rfl
  have hE2 : ∀ x, ((w.alloc (.cells ROW 25)).drew).frozen? x = W1.frozen? x := fun x => by rw [hW1]; rfl
  have hF1 : ∀ x, (((w.alloc (.cells ROW 25)).drew.setCells w.heap.size ((i) * 5) us).drew).cell? x = W2.cell? x := fun x => by rw [hW2, hW1]; rfl
  have hF2 : ∀ x, (((w.alloc (.cells ROW 25)).drew.setCells w.heap.size ((i) * 5) us).drew).frozen? x = W2.frozen? x := fun x => by rw [hW2, hW1]; rfl
  have HHp : Hid (∀ k : Nat, ((((w.alloc (.cells ROW 25)).drew.setCells w.heap.size ((i) * 5) us).drew).setCells w.heap.size ((i + 1) * 5) (xs.drop (i * 5))).heap[k]? = (W2.setCells w.heap.size ((i + 1) * 5) (xs.drop (i * 5))).heap[k]?) := fun k => by
    rw [hW2, hW1]
    have e := setCells_heap w.heap.size (xs.drop (i * 5)) ((i + 1) * 5) (((w.alloc (.cells ROW 25)).drew.setCells w.heap.size ((i) * 5) us).drew) ((w.drew.alloc (.cells ROW 25)).setCells w.heap.size ((i) * 5) us) (setCells_heap w.heap.size us ((i) * 5) (w.alloc (.cells ROW 25)).drew (w.drew.alloc (.cells ROW 25)) rfl)
    rw [e]
  rw [hW1] at hrz
  have HHrz := Lib.hid hrz
  have HcA := Lib.hid (hcpA _ hE1 hE2)
  have HcB := Lib.hid (hcpB _ hF1 hF2)
  have hz2 : ¬ ((i : Int) = (n : Int)) := by omega
  have hz3 : (cap : Int) < (n : Int) + 1 := by omega
  have hw1 : IntKind.i64.wrap ((i : Int) + 1) = (i : Int) + 1 := by rw [IntKind.wrap_i64]; omega
  have hb1 : (0 : Int) ≤ (i : Int) + 1 := by omega
  have hin : i ≤ n := by omega
  have htn : ((i : Int) + 1).toNat = i + 1 := by omega
  have hGi : ¬ (G = i) := by omega
  have hGim : ¬ (G = i + 1) := by omega
  have hci : ¬ (cap = i) := by omega
  have hb3 : (i : Int) ≤ (n : Int) := by omega
  have hb5 : n + 1 - (i + 1) = n - i := by omega
  clear hkk hik hold hROW hG hRz hR1 hWb hN hNf hOb hOv hcpA hcpB hdl hN2 hW1 hW2 hE1 hE2 hF1 hF2 hx hcs hi0 hz0 hzs hzb hsz h1x h1u hrz hcur hvb hus hxl
  go_enter Tryz.func31, Tryz.ntmps31
  have hcA := HcA.out
  go_wp2_with (at_builtin; refine Lib.wpList_append_run _ rfl _ _ _ _ rfl _ _ rfl rfl _ _ (HHrz.out _) ?_)
  have hcB := HcB.out
  go_region_law fail
  go_wp2_with fail
  go_ret
  exact HFin.out _ HHp.out HFr.out
set_option maxHeartbeats 4000000 in
set_option maxRecDepth 100000 in
theorem insEndO (B n vb vc : Nat) (A : Option Addr) (c : Nat) (xs us : List Value) (w : World) (hown : w.ownsRow B 25 5 (.slice A n c) n xs) (hBw : B ≤ w.heap.size) (hbig : (n + 1) * 80 ≤ 140737488355328) (hvb : Blk w vb 25 us.toArray) (hus : us.length = 5) (h1u : ∀ v ∈ us, v.oneCell' = true) :
    Calls Tryz.prog 31 #[.slice A n c, .int .i64 n, .slice (some ⟨vb, 0, none⟩) 1 vc] w (InsPost B 25 5 (.slice A n c) n n xs us w) := by
  obtain ⟨i0, hi0, hz0, hzs, hzb⟩ := info_parts insRowO
  have hxl := hown.1
  have hn63 : n + 1 ≤ 9223372036854775807 := by omega
  have HOwn := Lib.hid hown
  have HXl := Lib.hid hxl
  have hcap : n ≤ c := by
    rcases hown.2 with ⟨e, e2⟩ | ⟨g, cap, cur, e, _, _, h, _⟩
    · injection e with e1 e2 e3; omega
    · injection e with e1 e2 e3; omega
  have hnil : A = none → n = 0 := fun e => by
    rcases hown.2 with ⟨_, e2⟩ | ⟨g, cap, cur, e2, _⟩
    · exact e2
    · subst e; injection e2 with e3; cases e3
  have hc63 : c ≤ 9223372036854775807 := by
    rcases hown.2 with ⟨e, e2⟩ | ⟨g, cap, cur, e, _, _, h, h2, _⟩
    · injection e with e1 e2 e3; omega
    · injection e with e1 e2 e3; unfold maxLen at h2; omega
  have HNews : Hid (∀ j u, us[j]? = some u → w.cell? ((⟨vb, 0, none⟩ : Addr).add j) = some u) := fun j u hj => by
    rw [add_plain, Nat.zero_add, Blk.cell hvb j]; simpa using hj
  have HTake : Hid (∀ W w' v', w'.ownsRow B 25 5 v' (n + 1) (xs ++ us) → w.grownBy w' (Value.slice A n c).ownBlock → (v'.ownBlock = (Value.slice A n c).ownBlock ∨ v'.ownBlock = some w.heap.size) → W = w' → InsPost B 25 5 (.slice A n c) n n xs us w (.returned v') W) := by
    rintro W w' v' h1 h2 h3 rfl
    refine ⟨v', rfl, ?_, ⟨h2.os, h2.tape, h2.output, h2.size, fun k hk hs => h2.block k hk fun e => hs e.symm⟩, h3.imp id fun h => ⟨_, h, Nat.le_refl _⟩⟩
    rw [← hxl, List.take_length, List.drop_length, List.append_nil]; exact h1
  clear hown hxl hvb
  cases A with
  | none =>
    obtain rfl := hnil rfl
    clear hnil
    go_enter Tryz.func31, Tryz.ntmps31
    go_wp2_with (at_builtin; refine wpList_append_own_at _ rfl _ _ 23 rfl B 25 i0 (Value.agg #[.int .i64 0, .int .i64 0, .string ⟨#[]⟩, .slice none 0 0, .slice none 0 0]) 5 80 Tryz.underlying23 hi0 hz0 hzs hzb rfl (by decide) (.slice none 0 c) 0 xs rfl HOwn.out ⟨vb, 0, none⟩ 1 vc us rfl (by rw [hus]) HNews.out h1u (by unfold maxLen; omega) hbig hBw ?_; intro v' w' h1 h2 h3 h4; have HF := Lib.hid (HTake.out _ _ _ h1 h2 h4 rfl); clear h1 h2 h3 h4)
    go_ret
    exact HF.out
  | some ad =>
    clear hnil
    by_cases hcn : c = n
    · subst hcn
      go_enter Tryz.func31, Tryz.ntmps31
      go_wp2_with (at_builtin; refine wpList_append_own_at _ rfl _ _ 23 rfl B 25 i0 (Value.agg #[.int .i64 0, .int .i64 0, .string ⟨#[]⟩, .slice none 0 0, .slice none 0 0]) 5 80 Tryz.underlying23 hi0 hz0 hzs hzb rfl (by decide) (.slice (some ad) c c) c xs rfl HOwn.out ⟨vb, 0, none⟩ 1 vc us rfl (by rw [hus]) HNews.out h1u (by unfold maxLen; omega) hbig hBw ?_; intro v' w' h1 h2 h3 h4; have HF := Lib.hid (HTake.out _ _ _ h1 h2 h4 rfl); clear h1 h2 h3 h4)
      go_ret
      exact HF.out
    · go_enter Tryz.func31, Tryz.ntmps31
      go_wp2_with (at_builtin; refine wpList_append_own_at _ rfl _ _ 23 rfl B 25 i0 (Value.agg #[.int .i64 0, .int .i64 0, .string ⟨#[]⟩, .slice none 0 0, .slice none 0 0]) 5 80 Tryz.underlying23 hi0 hz0 hzs hzb rfl (by decide) (.slice (some ad) n c) n xs rfl HOwn.out ⟨vb, 0, none⟩ 1 vc us rfl (by rw [hus]) HNews.out h1u (by unfold maxLen; omega) hbig hBw ?_; intro v' w' h1 h2 h3 h4; have HF := Lib.hid (HTake.out _ _ _ h1 h2 h4 rfl); clear h1 h2 h3 h4)
      go_ret
      exact HF.out
/-- slices.Insert of one value into a row of the call's own. -/
theorem insAnyO (B n i vb vc : Nat) (v : Value) (xs us : List Value) (w : World) (hown : w.ownsRow B 25 5 v n xs) (hi : i ≤ n) (hBw : B ≤ w.heap.size) (hbig : (n + 1) * 80 ≤ 140737488355328) (hvb : Blk w vb 25 us.toArray) (hne : v.ownBlock ≠ some vb) (hus : us.length = 5) (h1x : ∀ v ∈ xs, v.oneCell' = true) (h1u : ∀ v ∈ us, v.oneCell' = true) :
    Calls Tryz.prog 31 #[v, .int .i64 i, .slice (some ⟨vb, 0, none⟩) 1 vc] w (InsPost B 25 5 v n i xs us w) := by
  rcases Nat.lt_or_ge i n with hlt | hge
  · obtain ⟨hxl, ⟨-, e⟩ | ⟨g, cap, cur, rfl, hB, hh, hnc, hcm, hcz, hx⟩⟩ := hown
    · omega
    · by_cases hroom : n + 1 ≤ cap
      · exact insRoomO B g n cap i vb vc cur xs us w hh hcz hB hlt hroom hcm hx hxl hvb (fun e => hne (by rw [e]; rfl)) hus h1x h1u
      · exact insGrowO B g n cap i vb vc cur xs us w hh hBw hlt hnc (by omega) hbig hx hxl hvb hus h1x h1u
  · obtain rfl : i = n := by omega
    obtain ⟨A, c, rfl⟩ := own_form hown
    exact insEndO B i vb vc A c xs us w hown hBw hbig hvb hus h1u
end Go.Proofs.YthbdhijkdldmoaaGreatDoor
