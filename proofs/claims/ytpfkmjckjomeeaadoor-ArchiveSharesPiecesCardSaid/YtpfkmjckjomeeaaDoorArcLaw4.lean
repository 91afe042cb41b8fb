/- The walk of ArchiveSharesPieces. -/
import Derived.Test.YtpfkmjckjomeeaaDoorArcLaw1
import Derived.Test.YtpfkmjckjomeeaaDoorArcSC
namespace Go.Proofs.YtpfkmjckjomeeaaDoor
open Go.RowKit Arc
open Go.Maps (Keyed)
/-- Pieces are collected: those of the first i data, and the first j of the next ones. -/
structure PcR (w2 : World) (base : Nat) (l : List ByteArray) (v : Value) (wr : World) : Prop where
  row : wr.ownsRow base 9 1 v l.length (strs l)
  bl : Below w2.heap.size w2 wr
theorem PcR.later {w2 wr w3 : World} {base : Nat} {l : List ByteArray} {v : Value} (h : PcR w2 base l v wr) (hb : Below wr.heap.size wr w3) : PcR w2 base l v w3 := ⟨own_below h.row hb, h.bl.trans (hb.mono h.bl.size)⟩
theorem PcR.push {w2 wr w5 : World} {l : List ByteArray} {v v5 : Value} {s : ByteArray} (h : PcR w2 w2.heap.size l v wr) (ho5 : w5.ownsRow w2.heap.size 9 1 v5 (l.length + 1) (strs l ++ [.string s])) (hg5 : (wr.alloc (Obj.cells #[.string s] 9)).grownBy w5 v.ownBlock) : PcR w2 w2.heap.size (l ++ [s]) v5 w5 :=
  ⟨by rw [List.length_append, strs_snoc]; exact ho5, (h.bl.alloc h.bl.size _).grown hg5 (by have := h.bl.size; simp; omega) fun k hk => (own_lt h.row k hk).1⟩
set_option maxRecDepth 100000 in
set_option maxHeartbeats 8000000 in
theorem shares_any (ds : List ByteArray) (v : Value) (ok : Nat → Prop) (w : World) (hT : Tab w) (h1 : 1 ≤ w.heap.size) (hsl : Sl w ok v (strs ds)) (hms : ∀ j, (ds.getD j ByteArray.empty).size ≤ maxLen) :
    Calls Tryd.prog 6 #[v] w fun e w' => e = .returned (.bool true) ∧ Below w.heap.size w w' := by
  have HSt := Lib.hid (stores_any w hT h1)
  have HFl : Hid (∀ w', Below w.heap.size w w' → Calls Tryd.prog 11 #[v] w' (FillOk ds (min ds.length 12) w')) := fun w' hb => filled_any ds v ok w' (tab_keep (ok := fun _ => False) hT (.of_below hb) id (by omega)) (by have := hb.size; omega) (hsl.later hb) hms
  obtain ⟨n, hn⟩ : ∃ n, min ds.length 12 = n := ⟨_, rfl⟩
  rw [hn] at HFl
  have hn12 : n ≤ 12 := by omega
  have hos : Hid (∀ i, i < n → ((outs ds n).getD i ByteArray.empty).size ≤ 16384) := fun i hi => by
    rw [outs_get hi]; split
    · assumption
    · decide
  clear hT hms hn hsl
  go_enter Tryd.func6, Tryd.ntmps6
  go_wp2_with fail
  (with_reducible refine HSt.out.mono ?_); rintro e w1 ⟨rfl, hb1⟩
  have HB1 := Lib.hid hb1
  clear hb1 HSt
  go_wp2_with fail
  (with_reducible refine (HFl.out _ HB1.out).mono ?_); rintro e w2 ⟨A, V, vo, rfl, fr⟩
  have FR := Lib.hid fr
  have HB2 : Hid (Below w.heap.size w w2) := HB1.out.trans (fr.bl.mono HB1.out.size)
  obtain ⟨Ao, co, rfl⟩ := own_form fr.row
  have HOl := Lib.hid (outs_length ds n)
  have HBy := Lib.hid (bytes_kept ds n)
  have hsb : sizes (outs ds n) ≤ 200000 := by rw [← bytes_kept]; have := total_kept ds n; omega
  have HTk : Hid (∀ i, i < n → sizes ((outs ds n).take (i + 1)) = sizes ((outs ds n).take i) + ((outs ds n).getD i ByteArray.empty).size ∧ sizes ((outs ds n).take (i + 1)) ≤ sizes (outs ds n) ∧ pcsOf ((outs ds n).take (i + 1)) = pcsOf ((outs ds n).take i) ++ parts ((outs ds n).getD i ByteArray.empty)) := fun i hi => by
    have hi2 : i < (outs ds n).length := by rw [outs_length]; exact hi
    refine ⟨?_, sizes_take_le _ _, ?_⟩
    · rw [sizes_succ _ _ hi2, List.getD_eq_getElem?_getD, List.getElem?_eq_getElem hi2]; rfl
    · rw [List.take_succ_eq_append_getElem hi2, List.getD_eq_getElem?_getD, List.getElem?_eq_getElem hi2]; unfold pcsOf; rw [List.flatMap_append]; simp
  have HPl : Hid (∀ i, i ≤ n → (pcsOf ((outs ds n).take i)).length ≤ sizes ((outs ds n).take i)) := fun i _ => by
    generalize (outs ds n).take i = l
    induction l with
    | nil => exact Nat.le_refl _
    | cons a r ih =>
      have := parts_length a
      simp only [pcsOf, List.flatMap_cons, List.length_append, sizes, List.map_cons, List.sum_cons] at ih ⊢
      omega
  clear fr
  have R0 : Hid (PcR w2 w2.heap.size (pcsOf ((outs ds n).take 0)) (.slice none 0 0) w2) := ⟨World.ownsRow_nil _ _ _ _, Below.refl _ _⟩
  go_wp2
  obtain ⟨os, hos2⟩ : ∃ os, outs ds n = os := ⟨_, rfl⟩
  have HOs := Lib.hid hos2
  rw [hos2] at hos HBy hsb HTk HPl R0 HOl
  clear hos2
  go_loopw [27, 5, 6] (fun v27 v5 v6 wr => ∃ i : Nat, i ≤ n ∧ v27 = .int .i64 (i : Int) ∧ v6 = .int .i64 (sizes (os.take i) : Int) ∧ PcR w2 w2.heap.size (pcsOf (os.take i)) v5 wr) (fun v27 _ _ _ => n - (intOf v27).toNat)
  case atStart => exact ⟨0, by omega, rfl, rfl, R0.out⟩
  case round =>
    obtain ⟨i, hi, rfl, rfl, pr⟩ := hrel
    have PR := Lib.hid pr
    obtain ⟨A5, c5, rfl⟩ := own_form pr.row
    have hbr := pr.bl
    clear pr
    by_cases hlt : i < n
    · obtain ⟨t1, t2, t3⟩ := HTk.out i hlt
      have hpl := HPl.out i (by omega)
      obtain ⟨go, cap, eo, _, hgo, _, _, hco⟩ := own_cells FR.out.row (by omega)
      injection eo with eo1 _ eo3
      subst eo1
      subst eo3
      have hc2 := (hbr.cell (p := ⟨go, i, none⟩) hgo).trans (hco i _ (strs_get (outs ds n) i (by rw [HOs.out, HOl.out]; exact hlt)))
      rw [HOs.out] at hc2
      have hsz := hos.out i hlt
      have HT3 := Lib.hid t3
      have HT1 := Lib.hid t1
      have hz9 : sizes (os.take i) + (os.getD i ByteArray.empty).size ≤ 200000 := by omega
      clear t1 t3 hco
      generalize os.getD i ByteArray.empty = s at *
      have HCu := Lib.hid (cuts_any s wr hsz)
      have hcn := cuts_length_le s
      have HRE : Hid ((rest (cuts s) s (cuts s).length).size = 0) := rest_end s
      have HG : Hid (∀ j, j < (cuts s).length → 1 ≤ (cuts s).getD j 0 ∧ (cuts s).getD j 0 ≤ (rest (cuts s) s j).size ∧ rest (cuts s) s (j + 1) = (rest (cuts s) s j).extract ((cuts s).getD j 0) (rest (cuts s) s j).size ∧ (parts s).take (j + 1) = (parts s).take j ++ [(rest (cuts s) s j).extract 0 ((cuts s).getD j 0)]) := fun j hj => by
        obtain ⟨a, b, c, _⟩ := cuts_get hj
        refine ⟨a, b, rest_succ _ _ _ hj, ?_⟩
        rw [List.take_add_one, show (parts s)[j]? = _ from split_get (cuts s) s j hj]; rfl
      have HRs : Hid (∀ j, j ≤ (cuts s).length → (rest (cuts s) s j).size ≤ s.size) := fun j hj => by rw [(rest_at s j hj).2, size_rest]; omega
      have HR0 : Hid (rest (cuts s) s 0 = s) := by cases cuts s <;> rfl
      have HPn : Hid ((parts s).length = (cuts s).length) := split_length _ _
      go_wp2_with fail
      (with_reducible refine HCu.out.mono ?_); rintro e w3 ⟨vl, rfl, hol, hb3⟩
      obtain ⟨Al, cl, rfl⟩ := own_form hol
      have PR3 := Lib.hid (PR.out.later hb3)
      have HOL := Lib.hid hol
      have hb23 := hbr.trans (hb3.mono hbr.size)
      have hs3 := hb3.size
      clear hol hb3 HCu
      generalize hm : (cuts s).length = m at *
      have HM := Lib.hid hm
      clear hm
      go_wp2
      obtain ⟨L0, hL0⟩ : ∃ L0, pcsOf (os.take i) = L0 := ⟨_, rfl⟩
      have HL0 := Lib.hid hL0
      rw [hL0] at hpl PR3 HT3 PR
      obtain ⟨Bl, hBl⟩ : ∃ Bl, wr.heap.size = Bl := ⟨_, rfl⟩
      rw [hBl] at HOL hs3
      have hk9 : L0.length ≤ 200000 := by have := sizes_take_le os i; omega
      have hbx := hbr.size
      rw [hBl] at hbx
      clear hL0 hBl hc2 hgo
      have R1 : Hid (PcR w2 w2.heap.size (L0 ++ (parts s).take 0) (.slice A5 L0.length c5) w3) := by rw [List.take_zero, List.append_nil]; exact PR3.out
      rw [HL0.out]
      go_loopw [44, 5, 8] (fun v44 v5 v8 wr => ∃ j : Nat, j ≤ m ∧ v44 = .int .i64 (j : Int) ∧ v8 = .string (rest (cuts s) s j) ∧ PcR w2 w2.heap.size (L0 ++ (parts s).take j) v5 wr ∧ wr.ownsRow Bl 3 1 (.slice Al m cl) m (nats (cuts s))) (fun v44 _ _ _ => m - (intOf v44).toNat)
      case atStart => exact ⟨0, by omega, rfl, by rw [HR0.out], R1.out, HOL.out⟩
      case round =>
        obtain ⟨j, hj, rfl, rfl, pr, ho⟩ := hrel
        have PR6 := Lib.hid pr
        have HO6 := Lib.hid ho
        have hpl6 : (L0 ++ (parts s).take j).length = L0.length + j := by rw [List.length_append, List.length_take, HPn.out]; omega
        have hrow6 := pr.row
        rw [hpl6] at hrow6
        obtain ⟨A6, c6, rfl⟩ := own_form hrow6
        have HRow6 := Lib.hid hrow6
        have hbr6 := pr.bl.size
        have hrs := HRs.out j hj
        clear pr ho hrow6
        by_cases hlt2 : j < m
        · obtain ⟨g1, g2, g3, g4⟩ := HG.out j hlt2
          obtain ⟨gl, capl, el, _, hgl, _, _, hcl⟩ := own_cells HO6.out (by omega)
          injection el with el1 _ el3
          subst el1
          subst el3
          have cj := hcl j (.int .i64 ((cuts s).getD j 0 : Nat)) (by
            unfold nats; rw [List.getElem?_map, List.getElem?_eq_getElem (by have := HM.out; omega), List.getD_eq_getElem?_getD, List.getElem?_eq_getElem (by have := HM.out; omega)]; rfl)
          have G3 := Lib.hid g3
          have G4 := Lib.hid g4
          have HP6 := Lib.hid hpl6
          clear g3 g4 hcl hpl6
          generalize rest (cuts s) s j = r at *
          generalize (cuts s).getD j 0 = c at *
          have HOk : Hid (∀ w5 o, (wr.alloc o).grownBy w5 (Value.slice A6 (L0.length + j) c6).ownBlock → w5.ownsRow Bl 3 1 (.slice (some ⟨gl, 0, none⟩) m cl) m (nats (cuts s))) := fun w5 o hg => by
            refine (Fr.of_grown (ok := fun b => (Value.slice A6 (L0.length + j) c6).ownBlock = some b) hg fun b e => e).own (HO6.out.alloc o) fun b hb e => ?_
            exact own_apart HO6.out HRow6.out (by decide) hb e
          have q1 : decide ((c : Int) < 1) = false := decide_eq_false (by omega)
          go_wp2_with (at_builtin; refine wpList_push eStr rfl (.tmp 56) (.tmp 60) rfl w2.heap.size (.slice A6 (L0.length + j) c6) (L0.length + j) _ rfl (HRow6.out.alloc _) ⟨wr.heap.size, 0, none⟩ 1 (.string (r.extract 0 c)) rfl (new_one _ _ _) rfl (by omega) (by omega) (by simp; omega) ?_; intro v5 w5 ho5 hg5 hk5; have HPs := Lib.hid (PR6.out.push (s := r.extract 0 c) (by rw [HP6.out]; exact ho5) hg5); have HO7 := Lib.hid (HOk.out _ _ hg5); clear ho5 hg5 hk5)
          refine ⟨⟨j + 1, by omega, by go_num, by rw [G3.out], by rw [G4.out, ← List.append_assoc]; exact HPs.out, HO7.out⟩, by simp [intOf]; omega⟩
        · obtain rfl : j = m := by omega
          have hemp := is_empty HRE.out
          have hpt : (parts s).take j = parts s := by rw [← HPn.out, List.take_length]
          rw [hpt] at PR6
          have PR7 : Hid (PcR w2 w2.heap.size (pcsOf (os.take (i + 1))) (.slice A6 (L0.length + j) c6) wr) := by rw [HT3.out]; exact PR6.out
          have HT9 := Lib.hid HT1.out
          clear hpt
          go_wp2
          refine ⟨⟨i + 1, by omega, by go_num, by rw [HT9.out]; go_num, PR7.out⟩, by simp [intOf]; omega⟩
    · obtain rfl : i = n := by omega
      have hta : os.take i = os := by rw [← HOl.out, List.take_length]
      have hplf := HPl.out i (Nat.le_refl _)
      rw [hta] at hplf PR ⊢
      have hrowf := PR.out.row
      rw [strs_strL] at hrowf
      obtain ⟨k0, hk0⟩ : ∃ k0, (pcsOf os).length = k0 := ⟨_, rfl⟩
      rw [hk0] at hplf hrowf ⊢
      have HRf := Lib.hid hrowf
      have HSo := Lib.hid (sort_strs _ hrowf (by omega))
      have AMr := Lib.hid (FR.out.am.later hbr)
      have HDc := Lib.hid (distinct_count (build_has (kept ds i)).ok (ps := pcsOf os) (by rw [← HOs.out]; exact pcs_kept ds i))
      have HBl := Lib.hid hbr
      clear hta hrowf hbr hk0 hlt
      go_wp2_with fail
      (with_reducible refine HSo.out.mono ?_); rintro e w6 ⟨rfl, ho6, hg6⟩
      have HB6 := Lib.hid (HBl.out.grown hg6 HBl.out.size fun k hk => (own_lt HRf.out k hk).1)
      have HCm := Lib.hid (compact_strs _ ho6 (by omega))
      have HR6 := Lib.hid ho6
      clear ho6 hg6 HSo
      go_wp2_with fail
      (with_reducible refine HCm.out.mono ?_); rintro e w7 ⟨v7, rfl, ho7, hg7⟩
      have HB7 := Lib.hid (HB6.out.grown hg7 HB6.out.size fun k hk => (own_lt HR6.out k hk).1)
      have HR7 : Hid (w7.ownsRow w2.heap.size 9 1 v7 (Arc.distinct (pcsOf os)).length (strL (Arc.distinct (pcsOf os)))) := ho7
      clear ho7 hg7 HCm HR6
      obtain ⟨D, hD⟩ : ∃ D, Arc.distinct (pcsOf os) = D := ⟨_, rfl⟩
      rw [hD] at HR7 HDc
      clear hD
      obtain ⟨A7, c7, rfl⟩ := own_form HR7.out
      obtain ⟨k7, hk7⟩ : ∃ k7, D.length = k7 := ⟨_, rfl⟩
      rw [hk7] at HR7 HDc ⊢
      have HK7 := Lib.hid hk7
      clear hk7
      have hbc := build_cnt (kept ds i)
      have htk : total (kept ds i) ≤ 200000 := by rw [bytes_kept, HOs.out]; exact hsb
      have hst7 : lens D ≤ 200000 := by have := HDc.out.2; omega
      have hk79 : k7 ≤ 200000 := by have := HDc.out.1; omega
      have HLn : Hid (∀ j, j < k7 → lens (D.take (j + 1)) = lens (D.take j) + (D.getD j []).length ∧ lens (D.take (j + 1)) ≤ lens D) := fun j hj => by
        have hj2 : j < D.length := by have := HK7.out; omega
        refine ⟨?_, ?_⟩
        · unfold lens
          rw [List.take_succ_eq_append_getElem hj2, List.map_append, List.sum_append, List.getD_eq_getElem?_getD, List.getElem?_eq_getElem hj2]; simp
        · have : lens D = lens (D.take (j + 1)) + lens (D.drop (j + 1)) := by
            conv => lhs; rw [← List.take_append_drop (j + 1) D]
            unfold lens; rw [List.map_append, List.sum_append]
          omega
      go_wp2
      go_loop [75, 13] (fun v75 v13 => ∃ j : Nat, j ≤ k7 ∧ v75 = .int .i64 (j : Int) ∧ v13 = .int .i64 (lens (D.take j) : Int)) (fun v75 _ => k7 - (intOf v75).toNat)
      case atStart => exact ⟨0, by omega, rfl, rfl⟩
      case round =>
        obtain ⟨j, hj, rfl, rfl⟩ := hrel
        by_cases hlt : j < k7
        · obtain ⟨a1, a2⟩ := HLn.out j hlt
          obtain ⟨g7, cap7, e7, _, _, _, _, hc7⟩ := own_cells HR7.out (by omega)
          injection e7 with e71 _ e73
          subst e71
          subst e73
          have hcell := hc7 j (Go.Proofs.encStr (D.getD j [])) (by
            unfold strL; rw [List.getElem?_map, List.getElem?_eq_getElem (by have := HK7.out; omega), List.getD_eq_getElem?_getD, List.getElem?_eq_getElem (by have := HK7.out; omega)]; rfl)
          unfold Go.Proofs.encStr at hcell
          have hl9 : ((⟨(D.getD j []).toArray⟩ : ByteArray).size) = (D.getD j []).length := by show (D.getD j []).toArray.size = _; simp
          have A1 := Lib.hid a1
          obtain ⟨sj, hsj⟩ : ∃ sj : ByteArray, (⟨(D.getD j []).toArray⟩ : ByteArray) = sj := ⟨_, rfl⟩
          rw [hsj] at hcell hl9
          have hb9 : lens (D.take j) + sj.size ≤ 200000 := by omega
          have HL9 := Lib.hid hl9
          clear a1 hc7 hsj hl9
          generalize lens (D.take j) = t at *
          go_wp2
          refine ⟨⟨j + 1, by omega, by go_num, by rw [A1.out, ← HL9.out]; go_num⟩, by simp [intOf]; omega⟩
        · obtain rfl : j = k7 := by omega
          have htj : D.take j = D := by rw [← HK7.out, List.take_length]
          rw [htj]
          have AM7 := Lib.hid (FR.out.am.later HB7.out)
          have hord := (build_has (kept ds i)).nm
          have hnl : (build (kept ds i)).nm.length ≤ 12 := by
            have h := congrArg List.length hord
            simp [St.order] at h
            have := kept_length ds i; omega
          have hby : (build (kept ds i)).bytes = sizes os := by rw [(build_has _).bytes, bytes_kept, HOs.out]
          have HSt := Lib.hid (stats_any w7 AM7.out (kept_srt ds i hn12).nodup (by omega) (by omega) (by omega) (by omega))
          have HBy2 := Lib.hid hby
          have HBt : Hid (Below w.heap.size w w7) := HB2.out.trans (HB7.out.mono HB2.out.size)
          clear htj hord hby hlt
          go_wp2_with fail
          (with_reducible refine HSt.out.mono ?_); rintro e w8 ⟨rfl, hb8⟩
          unfold statsV
          rw [HBy2.out, ← HDc.out.1, ← HDc.out.2]
          have AM8 := Lib.hid (AM7.out.later hb8)
          have HB8 := Lib.hid (HBt.out.trans (hb8.mono HBt.out.size))
          have hol : (build (kept ds i)).order.length = (build (kept ds i)).nm.length := by simp [St.order]
          have HNm := Lib.hid (names_any w8 AM8.out (by omega))
          have HOo := Lib.hid hol
          clear hb8 HSt hol
          go_wp2_with fail
          (with_reducible refine HNm.out.mono ?_); rintro e w9 ⟨vn, rfl, hon, hb9⟩
          rw [HOo.out] at hon
          obtain ⟨An, cn, rfl⟩ := own_form hon
          have HB9 := Lib.hid (HB8.out.trans (hb9.mono HB8.out.size))
          clear hon hb9 HNm
          go_wp2
          go_ret
          exact ⟨rfl, HB9.out⟩
end Go.Proofs.YtpfkmjckjomeeaaDoor
