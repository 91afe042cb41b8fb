/- The walk of ArchiveStoresAndReturns. -/
import Derived.Test.YtpfkmjckjomeeaaDoorArcAgree
import Derived.Test.YtpfkmjckjomeeaaDoorWithin
namespace Go.Proofs.YtpfkmjckjomeeaaDoor
open Go.RowKit Arc
open Go.Maps (Keyed)
theorem cells_of {w : World} {base go n co k : Nat} {t : TypeId} {xs : List Value} (h : w.ownsRow base t 1 (.slice (some ⟨go, 0, none⟩) n co) n xs) (hk : k < n) : (w.cell? ⟨go, k, none⟩ = some (xs.getD k undef)) ∧ w.frozen? ⟨go, k, none⟩ = false ∧ go < w.heap.size := by
  obtain ⟨g, cap, e, _, hlt, _, _, hc⟩ := own_cells h (by omega)
  injection e with e; injection e with e; injection e with e
  subst e
  have hl : xs.length = n := by simpa using h.1
  refine ⟨hc k _ (by rw [List.getD_eq_getElem?_getD, List.getElem?_eq_getElem (by omega)]; rfl), ?_, hlt⟩
  rcases h.2 with ⟨e, _⟩ | ⟨g', cap', cur, e, _, hh, _⟩
  · cases e
  · injection e with e; injection e with e; injection e with e
    subst e
    simp [World.frozen?, hh]
theorem good_nm {i : Nat} (hi : i < 12) : Good (nm i) := ⟨by rw [nm_size]; decide, by rw [nm_size]; decide, (by decide : ∀ i : Fin 12, ∀ (q : Nat) (h : q < (nm i.val).size), 97 ≤ (nm i.val)[q].toNat ∧ (nm i.val)[q].toNat ≤ 122) ⟨i, hi⟩⟩
set_option maxRecDepth 100000 in
set_option maxHeartbeats 8000000 in
theorem returns_any (ds : List ByteArray) (v : Value) (ok : Nat → Prop) (which : Int) (w : World) (hT : Tab w) (h1 : 1 ≤ w.heap.size) (hsl : Sl w ok v (strs ds)) (hms : ∀ j, (ds.getD j ByteArray.empty).size ≤ maxLen) :
    Calls Tryd.prog 5 #[v, .int .i64 which] w fun e w' => e = .returned (.bool true) ∧ Below w.heap.size w w' := by
  have HSt := Lib.hid (stores_any w hT h1)
  have HFl : Hid (∀ w', Below w.heap.size w w' → Calls Tryd.prog 11 #[v] w' (FillOk ds (min ds.length 12) w')) := fun w' hb => filled_any ds v ok w' (tab_keep (ok := fun _ => False) hT (.of_below hb) id (by omega)) (by have := hb.size; omega) (hsl.later hb) hms
  obtain ⟨n, hn⟩ : ∃ n, min ds.length 12 = n := ⟨_, rfl⟩
  rw [hn] at HFl
  have hn12 : n ≤ 12 := by omega
  clear hT hms hn hsl
  go_enter Tryd.func5, Tryd.ntmps5
  go_wp2_with fail
  refine HSt.out.mono ?_; rintro e w1 ⟨rfl, hb1⟩
  have HB1 := Lib.hid hb1
  clear hb1 HSt
  go_wp2_with fail
  refine (HFl.out _ HB1.out).mono ?_; rintro e w2 ⟨A, V, vo, rfl, fr⟩
  have FR := Lib.hid fr
  have HB2 : Hid (Below w.heap.size w w2) := HB1.out.trans (fr.bl.mono HB1.out.size)
  obtain ⟨Ao, co, rfl⟩ := own_form fr.row
  have HH := Lib.hid (holds_any (outs ds n) (.slice Ao n co) _ w2 fr.am (build_has _) (Sl.of_own fr.row) (by rw [outs_length]; exact hn12) (fun i hi => by
    have := agree_kept ds n hn12 i hi
    rwa [← (build_has (kept ds n)).nm] at this))
  clear fr
  go_wp2_with fail
  (with_reducible refine HH.out.mono ?_); rintro e w3 ⟨rfl, hb3⟩
  have HB23 := Lib.hid hb3
  have HB3 : Hid (Below w.heap.size w w3) := HB2.out.trans (hb3.mono HB2.out.size)
  clear hb3 HH
  by_cases hn0 : n = 0
  · subst hn0
    go_wp2
    go_ret
    exact ⟨rfl, HB3.out⟩
  · have hnz : ((n : Int) == 0) = false := by simp; omega
    go_wp2_with fail
    (with_reducible refine (within_range which 0 ((n : Int) - 1) _ (by omega) (by omega) (by omega)).mono ?_); rintro e w' ⟨r, hr0, hr1, rfl, rfl⟩
    obtain ⟨k, rfl⟩ := Int.eq_ofNat_of_zero_le hr0
    have hkn : k < n := by omega
    have hcv := conv_nm w3 k (by omega)
    have hcat := nm_cat k
    have hb4 := (Below.refl w3.heap.size w3).alloc (Nat.le_refl _) (Obj.cells #[.int .u8 (97 + (k : Int))] 5)
    have HB24 : Hid (Below w2.heap.size w2 (w3.alloc (Obj.cells #[.int .u8 (97 + (k : Int))] 5))) := HB23.out.trans (hb4.mono HB23.out.size)
    have HB4 : Hid (Below w.heap.size w (w3.alloc (Obj.cells #[.int .u8 (97 + (k : Int))] 5))) := HB3.out.trans (hb4.mono HB3.out.size)
    clear hb4
    obtain ⟨go, cap, eo, _⟩ := own_cells FR.out.row (by omega)
    injection eo with eo1 _ eo3
    subst eo1
    subst eo3
    have hkept9 : Hid ((kept ds n).length ≤ 1000000) := by have := kept_length ds n; show (kept ds n).length ≤ 1000000; omega
    have hordk := (build_has (kept ds n)).nm
    have HSrt := Lib.hid (kept_srt ds n hn12)
    by_cases hsz : (ds.getD k ByteArray.empty).size ≤ 16384
    · have hmem := mem_keptOf (ds := ds) hkn hsz
      obtain ⟨q, hq⟩ := List.getElem?_of_mem hmem
      have hino : nm k ∈ (build (kept ds n)).order := by rw [hordk]; exact List.mem_map_of_mem (f := Prod.fst) hmem
      have AM4 := Lib.hid (FR.out.am.later HB24.out)
      have HG := Lib.hid (get_has _ AM4.out (build_has _) q _ hq (by rw [nm_size]; decide) hsz)
      dsimp only at HG
      have HIno := Lib.hid hino
      have HHk := Lib.hid hordk
      clear hmem hq hino hordk
      generalize ds.getD k ByteArray.empty = dk at *
      go_wp2_with fail
      (with_reducible refine HG.out.mono ?_); rintro e w5 ⟨rfl, hb5⟩
      have HB25 := Lib.hid (HB24.out.trans (hb5.mono HB24.out.size))
      have HB5 := Lib.hid (HB4.out.trans (hb5.mono HB4.out.size))
      have AM5 := Lib.hid (FR.out.am.later HB25.out)
      clear hb5 HG AM4 hcv hcat
      generalize w3.alloc (Obj.cells #[.int .u8 (97 + (k : Int))] 5) = w4 at *
      have HPt := Lib.hid (put_twice (nm k) ⟨#[122]⟩ w5 AM5.out (good_nm (by omega)) (by decide) HSrt.out (by rw [HHk.out, List.length_map]; exact hkept9.out) HIno.out)
      go_wp2_with fail
      (with_reducible refine HPt.out.mono ?_); rintro e w6 ⟨rfl, hb6⟩
      have HB26 := Lib.hid (HB25.out.trans (hb6.mono HB25.out.size))
      have HB6 := Lib.hid (HB5.out.trans (hb6.mono HB5.out.size))
      have AM6 := Lib.hid (FR.out.am.later HB26.out)
      clear hb6 HPt
      have HDr := Lib.hid (drop_some (nm k) w6 AM6.out HSrt.out (by rw [HHk.out, List.length_map]; exact hkept9.out) HIno.out (by rw [nm_size]; decide))
      go_wp2_with fail
      (with_reducible refine HDr.out.mono ?_); rintro e w7 ⟨V7, rfl, am7, fr7, fn7, n7⟩
      obtain ⟨hp1, hp2⟩ := pos_mem HSrt.out HIno.out
      have HAS7 := Lib.hid ((build_has (kept ds n)).drop (pos (build (kept ds n)).order (nm k)))
      have AM7 := Lib.hid am7
      have HB7 : Hid (Below w.heap.size w w7) := HB6.out.trans (fr7.below (fun b e => by have := (AM6.out.fp_lt e).1; have := HB1.out.size; omega) HB6.out.size)
      have ROW7 : Hid (w7.ownsRow w1.heap.size 9 1 (.slice (some ⟨go, 0, none⟩) n co) n (strs (outs ds n))) := fr7.own (own_below FR.out.row HB26.out) FR.out.sep
      have SEP7 : Hid (∀ b, (Value.slice (some ⟨go, 0, none⟩) n co).ownBlock = some b → ¬ Fp A V7 b) := fun b hb e => FR.out.sep b hb (fn7 b e)
      generalize hps : pos (build (kept ds n)).order (nm k) = p at *
      have hdl : (kept ds n).length = (build (kept ds n)).order.length := by rw [HHk.out, List.length_map]
      have hdp : ((kept ds n)[p]'(by omega)).1 = nm k := by
        rw [List.getD_eq_getElem?_getD, List.getElem?_eq_getElem hp1] at hp2
        simp only [Option.getD_some] at hp2
        rw [← hp2]
        simp [HHk.out]
      have AGR7 : Hid (Agree ((kept ds n).eraseIdx p) ((outs ds n).set k ByteArray.empty)) := agree_drop (agree_kept ds n hn12) (by rw [← HHk.out]; exact HSrt.out.nodup) (by rw [outs_length]; exact hn12) (by rw [outs_length]; exact hkn) (by omega) hdp
      have SRT7 : Hid (Srt (St.order ⟨(build (kept ds n)).p, (build (kept ds n)).nm.eraseIdx p⟩)) := by
        unfold St.order; dsimp only; rw [map_eraseIdx]
        exact HSrt.out.sub (List.eraseIdx_sublist _ _)
      have DL7 : Hid (((kept ds n).eraseIdx p).length ≤ 1000000) := by
        have h1 := List.length_eraseIdx_le (kept ds n) p
        have h2 := hkept9.out
        show _ ≤ _; omega
      have HNo : Hid (nm k ∉ St.order ⟨(build (kept ds n)).p, (build (kept ds n)).nm.eraseIdx p⟩) := by
        intro hm
        unfold St.order at hm; dsimp only at hm; rw [map_eraseIdx] at hm
        have := (mem_eraseIdx_nodup HSrt.out.nodup hp1 _).1 hm
        rw [List.getD_eq_getElem?_getD, List.getElem?_eq_getElem hp1] at hp2
        exact this.2 hp2.symm
      have HGn := Lib.hid (get_none (nm k) w7 AM7.out (by rw [nm_size]; decide) HNo.out)
      clear am7 fr7 fn7 n7 hps hdl hdp hp1 hp2 HDr
      go_wp2_with fail
      (with_reducible refine HGn.out.mono ?_); rintro e w8 ⟨rfl, hb8⟩
      have AM8 := Lib.hid (AM7.out.later hb8)
      have ROW8 := Lib.hid (own_below ROW7.out hb8)
      have HB8 := Lib.hid (HB7.out.trans (hb8.mono HB7.out.size))
      have SEP8 := SEP7
      have HAS8 := HAS7
      have AGR8 := AGR7
      have SRT8 := SRT7
      have DL8 := DL7
      clear hb8 HGn AM7 ROW7
      ·
        have CR8 := Lib.hid (cells_of ROW8.out hkn)
        obtain ⟨cg, fg, lg⟩ := CR8.out
        go_upto_region 12 with (fail)
        go_wp2_with fail
        have AM9 := Lib.hid (AM8.out.beside ROW8.out SEP8.out (Fr.of_set (ok := fun b => b = go) (p := ⟨go, k, none⟩) (.string ⟨#[]⟩) rfl) fun b _ e => by rw [e]; rfl)
        have ROW9 := Lib.hid (own_put ROW8.out (k := k) (.string ⟨#[]⟩))
        have HB9 := Lib.hid (HB8.out.setCell (p := ⟨go, k, none⟩) (by have := (own_lt ROW8.out go rfl).1; have := HB1.out.size; show w.heap.size ≤ go; omega) (.string ⟨#[]⟩))
        generalize w8.setCell ⟨go, k, none⟩ (.string ⟨#[]⟩) = w9 at *
        have HH9 := Lib.hid (holds_any ((outs ds n).set k ByteArray.empty) (.slice (some ⟨go, 0, none⟩) n co) _ w9 AM9.out HAS8.out (Sl.of_own (by rw [strs_set]; exact ROW9.out)) (by rw [List.length_set, outs_length]; exact hn12) (fun i hi => by
          have := AGR8.out i hi
          rwa [← HAS8.out.nm] at this))
        (with_reducible refine HH9.out.mono ?_); rintro e w10 ⟨rfl, hb10⟩
        have AM10 := Lib.hid (AM9.out.later hb10)
        have HB10 := Lib.hid (HB9.out.trans (hb10.mono HB9.out.size))
        clear hb10 HH9 AM9 ROW9
        go_wp2_with fail
        (with_reducible refine (names_any w10 AM10.out (by rw [HAS8.out.nm, List.length_map]; exact DL8.out)).mono ?_); rintro e w11 ⟨vn, rfl, hon, hb11⟩
        obtain ⟨An, cn, rfl⟩ := own_form hon
        have HB11 := Lib.hid (HB10.out.trans (hb11.mono HB10.out.size))
        have HIs := Lib.hid (issorted_yes _ w11 (Sl.of_own hon) SRT8.out (by rw [HAS8.out.nm, List.length_map]; exact DL8.out))
        clear hb11 hon
        go_wp2_with fail
        (with_reducible refine HIs.out.mono ?_); rintro e w12 ⟨rfl, hsm⟩
        have HB12 := Lib.hid (HB11.out.trans (hsm.below _))
        clear hsm HIs
        go_wp2
        go_ret
        exact ⟨rfl, HB12.out⟩
    · have hno : nm k ∉ (build (kept ds n)).order := fun hm => by
        rw [hordk] at hm
        obtain ⟨x, hx, e⟩ := List.mem_map.1 hm
        obtain ⟨j, hj, e2, e3, e4⟩ := mem_kept hx
        have hij := nm_inj (by omega) (by omega) (e.symm.trans e2)
        subst hij
        rw [e3] at e4; exact hsz e4
      have HNo := Lib.hid hno
      have HHk := Lib.hid hordk
      have AM4 := Lib.hid (FR.out.am.later HB24.out)
      have HG := Lib.hid (get_none (nm k) _ AM4.out (by rw [nm_size]; decide) HNo.out)
      clear hno hordk hsz
      go_wp2_with fail
      (with_reducible refine HG.out.mono ?_); rintro e w5 ⟨rfl, hb5⟩
      have HB25 := Lib.hid (HB24.out.trans (hb5.mono HB24.out.size))
      have HB5 := Lib.hid (HB4.out.trans (hb5.mono HB4.out.size))
      have AM5 := Lib.hid (FR.out.am.later HB25.out)
      clear hb5 HG AM4 hcv hcat
      generalize w3.alloc (Obj.cells #[.int .u8 (97 + (k : Int))] 5) = w4 at *
      have HGn := Lib.hid (get_none (nm k) w5 AM5.out (by rw [nm_size]; decide) HNo.out)
      go_wp2_with fail
      (with_reducible refine HGn.out.mono ?_); rintro e w8 ⟨rfl, hb8⟩
      have AM8 := Lib.hid (AM5.out.later hb8)
      have ROW8 := Lib.hid (own_below FR.out.row (HB25.out.trans (hb8.mono HB25.out.size)))
      have HB8 := Lib.hid (HB5.out.trans (hb8.mono HB5.out.size))
      have SEP8 := Lib.hid FR.out.sep
      have HAS8 := Lib.hid (build_has (kept ds n))
      have AGR8 : Hid (Agree (kept ds n) ((outs ds n).set k ByteArray.empty)) := agree_none (agree_kept ds n hn12) (by rw [outs_length]; exact hkn) (by rw [← HHk.out]; exact HNo.out)
      have SRT8 := HSrt
      have DL8 := hkept9
      clear hb8 HGn AM5
      ·
        have CR8 := Lib.hid (cells_of ROW8.out hkn)
        obtain ⟨cg, fg, lg⟩ := CR8.out
        go_upto_region 12 with (fail)
        go_wp2_with fail
        have AM9 := Lib.hid (AM8.out.beside ROW8.out SEP8.out (Fr.of_set (ok := fun b => b = go) (p := ⟨go, k, none⟩) (.string ⟨#[]⟩) rfl) fun b _ e => by rw [e]; rfl)
        have ROW9 := Lib.hid (own_put ROW8.out (k := k) (.string ⟨#[]⟩))
        have HB9 := Lib.hid (HB8.out.setCell (p := ⟨go, k, none⟩) (by have := (own_lt ROW8.out go rfl).1; have := HB1.out.size; show w.heap.size ≤ go; omega) (.string ⟨#[]⟩))
        generalize w8.setCell ⟨go, k, none⟩ (.string ⟨#[]⟩) = w9 at *
        have HH9 := Lib.hid (holds_any ((outs ds n).set k ByteArray.empty) (.slice (some ⟨go, 0, none⟩) n co) _ w9 AM9.out HAS8.out (Sl.of_own (by rw [strs_set]; exact ROW9.out)) (by rw [List.length_set, outs_length]; exact hn12) (fun i hi => by
          have := AGR8.out i hi
          rwa [← HAS8.out.nm] at this))
        (with_reducible refine HH9.out.mono ?_); rintro e w10 ⟨rfl, hb10⟩
        have AM10 := Lib.hid (AM9.out.later hb10)
        have HB10 := Lib.hid (HB9.out.trans (hb10.mono HB9.out.size))
        clear hb10 HH9 AM9 ROW9
        go_wp2_with fail
        (with_reducible refine (names_any w10 AM10.out (by rw [HAS8.out.nm, List.length_map]; exact DL8.out)).mono ?_); rintro e w11 ⟨vn, rfl, hon, hb11⟩
        obtain ⟨An, cn, rfl⟩ := own_form hon
        have HB11 := Lib.hid (HB10.out.trans (hb11.mono HB10.out.size))
        have HIs := Lib.hid (issorted_yes _ w11 (Sl.of_own hon) SRT8.out (by rw [HAS8.out.nm, List.length_map]; exact DL8.out))
        clear hb11 hon
        go_wp2_with fail
        (with_reducible refine HIs.out.mono ?_); rintro e w12 ⟨rfl, hsm⟩
        have HB12 := Lib.hid (HB11.out.trans (hsm.below _))
        clear hsm HIs
        go_wp2
        go_ret
        exact ⟨rfl, HB12.out⟩
end Go.Proofs.YtpfkmjckjomeeaaDoor
