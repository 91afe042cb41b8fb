/- The walk of ArchiveCollectKeepsData. -/
import Derived.Test.YtpfkmjckjomeeaaDoorArcLaw3
import Derived.Deep.RegionHeld3
import Derived.IntWalk
namespace Go.Proofs.YtpfkmjckjomeeaaDoor
open Go.RowKit Arc
open Go.Maps (Keyed)
/-- After some drops. -/
structure DropR (ds : List ByteArray) (n : Nat) (w1 : World) (A : Nat) (S : St) (d : List (ByteArray × ByteArray)) (os : List ByteArray) (V : AV) (v : Value) (wr : World) : Prop where
  am : AM w1.heap.size A S V wr
  has : S.Has d
  srt : Srt S.order
  agr : Agree d os
  ol : os.length = n
  nms : ∀ x ∈ d, (∃ j, j < 12 ∧ x.1 = nm j) ∧ x.2.size ≤ 16384
  dl : d.length ≤ 12
  sp : S.p = (build (kept ds n)).p
  row : wr.ownsRow w1.heap.size 9 1 v n (strs os)
  sep : ∀ b, v.ownBlock = some b → ¬ Fp A V b
  bl : Below w1.heap.size w1 wr
  n : V.n ≤ 240000
theorem fill_drop {ds : List ByteArray} {n : Nat} {w1 wr : World} {A : Nat} {V : AV} {v : Value} (h : FillR ds w1 A n V v wr) (hn : n ≤ 12) : DropR ds n w1 A (build (kept ds n)) (kept ds n) (outs ds n) V v wr :=
  ⟨h.am, build_has _, kept_srt ds n hn, agree_kept ds n hn, outs_length _ _, fun x hx => by
    obtain ⟨j, hj, e1, e2, e3⟩ := mem_kept hx
    exact ⟨⟨j, by omega, e1⟩, e3⟩, by have := kept_length ds n; omega, rfl, h.row, h.sep, h.bl, by have := h.n; omega⟩
section
variable {ds : List ByteArray} {n : Nat} {w1 wr w2 : World} {A : Nat} {S : St} {d : List (ByteArray × ByteArray)} {os : List ByteArray} {V : AV} {go co : Nat}
theorem DropR.later {v : Value} (h : DropR ds n w1 A S d os V v wr) (hb : Below wr.heap.size wr w2) : DropR ds n w1 A S d os V v w2 :=
  { h with am := h.am.later hb, row := own_below h.row hb, bl := h.bl.trans (hb.mono h.bl.size) }
theorem DropR.put (h : DropR ds n w1 A S d os V (.slice (some ⟨go, 0, none⟩) n co) wr) (k : Nat) (ha : Agree d (os.set k ByteArray.empty)) : DropR ds n w1 A S d (os.set k ByteArray.empty) V (.slice (some ⟨go, 0, none⟩) n co) (wr.setCell ⟨go, k, none⟩ (.string ⟨#[]⟩)) :=
  { h with
    am := h.am.beside h.row h.sep (Fr.of_set (ok := fun b => b = go) (p := ⟨go, k, none⟩) (.string ⟨#[]⟩) rfl) fun b _ e => by rw [e]; rfl
    agr := ha
    ol := by rw [List.length_set]; exact h.ol
    row := by rw [strs_set]; exact own_put h.row (.string ⟨#[]⟩)
    bl := h.bl.setCell (p := ⟨go, k, none⟩) (by have := (own_lt h.row go rfl).1; show w1.heap.size ≤ go; omega) (.string ⟨#[]⟩) }
theorem DropR.drop {k : Nat} {V7 : AV} (h : DropR ds n w1 A S d os V (.slice (some ⟨go, 0, none⟩) n co) wr) (hn : n ≤ 12) (hk : k < n) (hin : nm k ∈ S.order) (am7 : AM w1.heap.size A ⟨S.p, S.nm.eraseIdx (pos S.order (nm k))⟩ V7 w2) (fr7 : Fr (Fp A V) wr w2) (fn7 : ∀ b, Fp A V7 b → Fp A V b) (n7 : V7.n = V.n) :
    DropR ds n w1 A ⟨S.p, S.nm.eraseIdx (pos S.order (nm k))⟩ (d.eraseIdx (pos S.order (nm k))) (os.set k ByteArray.empty) V7 (.slice (some ⟨go, 0, none⟩) n co) (w2.setCell ⟨go, k, none⟩ (.string ⟨#[]⟩)) := by
  obtain ⟨hp1, hp2⟩ := pos_mem h.srt hin
  have hdl : d.length = S.order.length := by rw [h.has.nm, List.length_map]
  have row2 : w2.ownsRow w1.heap.size 9 1 (.slice (some ⟨go, 0, none⟩) n co) n (strs os) := fr7.own h.row h.sep
  have sep2 : ∀ b, (Value.slice (some ⟨go, 0, none⟩) n co).ownBlock = some b → ¬ Fp A V7 b := fun b hb e => h.sep b hb (fn7 b e)
  have bl2 : Below w1.heap.size w1 w2 := h.bl.trans (fr7.below (fun b e => (h.am.fp_lt e).1) h.bl.size)
  have hdp : (d[pos S.order (nm k)]'(by omega)).1 = nm k := by
    have := h.has.nm
    rw [List.getD_eq_getElem?_getD, List.getElem?_eq_getElem hp1] at hp2
    simp only [Option.getD_some] at hp2
    conv => rhs; rw [← hp2]
    simp [this]
  refine ⟨am7.beside row2 sep2 (Fr.of_set (ok := fun b => b = go) (p := ⟨go, k, none⟩) (.string ⟨#[]⟩) rfl) fun b _ e => by rw [e]; rfl, h.has.drop _, ?_, ?_, by rw [List.length_set]; exact h.ol, fun x hx => h.nms x (List.mem_of_mem_eraseIdx hx), ?_, h.sp, by rw [strs_set]; exact own_put row2 (.string ⟨#[]⟩), sep2, bl2.setCell (p := ⟨go, k, none⟩) (by have := (own_lt row2 go rfl).1; show w1.heap.size ≤ go; omega) (.string ⟨#[]⟩), by rw [n7]; exact h.n⟩
  · unfold St.order; dsimp only; rw [map_eraseIdx]
    exact h.srt.sub (List.eraseIdx_sublist _ _)
  · exact agree_drop h.agr (by rw [← h.has.nm]; exact h.srt.nodup) (by rw [h.ol]; exact hn) (by rw [h.ol]; exact hk) (by omega) hdp
  · have := List.length_eraseIdx_le d (pos S.order (nm k)); have := h.dl; omega
end
/-- The names are stored anew in another archive. -/
structure CopyR (d : List (ByteArray × ByteArray)) (wE wF : World) (A2 i : Nat) (V6 : AV) (vn : Value) (wr : World) : Prop where
  am : AM wE.heap.size A2 (build (d.take i)) V6 wr
  row : wr.ownsRow wF.heap.size 9 1 vn d.length (strs (build d).order)
  sep : ∀ b, vn.ownBlock = some b → ¬ Fp A2 V6 b
  bl : Below wE.heap.size wE wr
  n : V6.n ≤ 20000 * i
set_option maxRecDepth 100000 in
set_option maxHeartbeats 8000000 in
theorem collects_any (ds : List ByteArray) (v : Value) (ok : Nat → Prop) (zs : List Int) (vz : Value) (okz : Nat → Prop) (w : World) (hT : Tab w) (h1 : 1 ≤ w.heap.size) (hsl : Sl w ok v (strs ds)) (hms : ∀ j, (ds.getD j ByteArray.empty).size ≤ maxLen) (hsz : Sl w okz vz (ints zs)) :
    Calls Tryd.prog 4 #[v, vz] w fun e w' => e = .returned (.bool true) ∧ Below w.heap.size w w' := by
  have HSt := Lib.hid (stores_any w hT h1)
  have HT := Lib.hid hT
  have HFl : Hid (∀ w', Below w.heap.size w w' → Calls Tryd.prog 11 #[v] w' (FillOk ds (min ds.length 12) w')) := fun w' hb => filled_any ds v ok w' (tab_keep (ok := fun _ => False) hT (.of_below hb) id (by omega)) (by have := hb.size; omega) (hsl.later hb) hms
  obtain ⟨n, hn⟩ : ∃ n, min ds.length 12 = n := ⟨_, rfl⟩
  rw [hn] at HFl
  have hn12 : n ≤ 12 := by omega
  have HZ := Lib.hid hsz
  obtain ⟨Az, cz, rfl⟩ := hsz.form
  have hcl := hsz.cap_le
  rw [ints_length] at hcl
  obtain ⟨-, hcl1, hcl2⟩ := hcl
  unfold maxLen at hcl2
  rw [ints_length]
  obtain ⟨L, hL⟩ : ∃ L, zs.length = L := ⟨_, rfl⟩
  rw [hL] at hcl1 ⊢
  have HL := Lib.hid hL
  obtain ⟨m, hm⟩ : ∃ m, min L 8 = m := ⟨_, rfl⟩
  have emin : min (L : Int) 8 = (m : Int) := by omega
  have hm8 : m ≤ 8 := by omega
  have hmL : m ≤ L := by omega
  clear hT hms hn hsl hsz hL hm
  go_enter Tryd.func4, Tryd.ntmps4
  go_wp2_with fail
  (with_reducible refine HSt.out.mono ?_); rintro e w1 ⟨rfl, hb1⟩
  have HB1 := Lib.hid hb1
  clear hb1 HSt
  go_wp2_with fail
  (with_reducible refine (HFl.out _ HB1.out).mono ?_); rintro e w2 ⟨A, V, vo, rfl, fr⟩
  have FR := Lib.hid fr
  have HB2 : Hid (Below w.heap.size w w2) := HB1.out.trans (fr.bl.mono HB1.out.size)
  obtain ⟨Ao, co, rfl⟩ := own_form fr.row
  clear fr
  by_cases hn0 : n = 0
  · subst hn0
    go_wp2
    go_ret
    exact ⟨rfl, HB2.out⟩
  · have hnz : ((n : Int) == 0) = false := by simp; omega
    obtain ⟨go, cap, eo, _⟩ := own_cells FR.out.row (by omega)
    injection eo with eo1 _ eo3
    subst eo1
    subst eo3
    have D0 := Lib.hid (fill_drop FR.out hn12)
    go_wp2
    clear emin
    go_loopw [40] (fun v40 wr => ∃ (i : Nat) (S : St) (d : List (ByteArray × ByteArray)) (os : List ByteArray) (V : AV), i ≤ m ∧ v40 = .int .i64 (i : Int) ∧ DropR ds n w1 A S d os V (.slice (some ⟨go, 0, none⟩) n co) wr) (fun v40 _ => m - (intOf v40).toNat)
    case atStart => exact ⟨0, _, _, _, V, by omega, rfl, D0.out⟩
    case round =>
      obtain ⟨i, S, d, os, V1, hi, rfl, dr⟩ := hrel
      have DR := Lib.hid dr
      have hb := dr.bl
      clear dr
      by_cases hlt : i < m
      · obtain ⟨bd, od, had, hbd, hcd⟩ := (HZ.out.later (HB1.out.trans (hb.mono HB1.out.size))).plainA (by rw [ints_length]; have := HL.out; omega)
        subst had
        have hcell := hcd i _ (ints_get (by have := HL.out; omega))
        have hiL : i < L := by omega
        generalize zs.getD i 0 = z at hcell
        clear hcd hb
        go_wp2_with fail
        (with_reducible refine (within_range z 0 ((n : Int) - 1) _ (by omega) (by omega) (by omega)).mono ?_); rintro e w' ⟨r, hr0, hr1, rfl, rfl⟩
        obtain ⟨k, rfl⟩ := Int.eq_ofNat_of_zero_le hr0
        have hkn : k < n := by omega
        have hcv := conv_nm wr k (by omega)
        have hcat := nm_cat k
        have D1 := Lib.hid (DR.out.later ((Below.refl wr.heap.size wr).alloc (Nat.le_refl _) (Obj.cells #[.int .u8 (97 + (k : Int))] 5)))
        have hol : Hid (S.order.length ≤ 1000000) := by rw [DR.out.has.nm, List.length_map]; have := DR.out.dl; show d.length ≤ 1000000; omega
        clear hr0 hr1 hcell hbd
        by_cases hin : nm k ∈ S.order
        · have HIn := Lib.hid hin
          have HDr := Lib.hid (drop_some (nm k) _ D1.out.am D1.out.srt hol.out HIn.out (by rw [nm_size]; decide))
          clear hin
          go_wp2_with fail
          (with_reducible refine HDr.out.mono ?_); rintro e w7 ⟨V7, rfl, am7, fr7, fn7, n7⟩
          have D2 := Lib.hid (D1.out.drop hn12 hkn HIn.out am7 fr7 fn7 n7)
          obtain ⟨cg, fg, lg⟩ := cells_of (fr7.own D1.out.row D1.out.sep) hkn
          clear am7 fr7 fn7 n7 HDr hcv hcat
          go_wp2
          refine ⟨⟨i + 1, _, _, _, V7, by omega, by go_num, D2.out⟩, by simp [intOf]; omega⟩
        · have HIn := Lib.hid hin
          have HDr := Lib.hid (drop_none (nm k) _ D1.out.am D1.out.srt hol.out HIn.out)
          clear hin
          go_wp2_with fail
          (with_reducible refine HDr.out.mono ?_); rintro e w7 ⟨rfl, hb7⟩
          have D2 := Lib.hid ((D1.out.later hb7).put k (agree_none D1.out.agr (by rw [D1.out.ol]; exact hkn) (by rw [← D1.out.has.nm]; exact HIn.out)))
          obtain ⟨cg, fg, lg⟩ := cells_of (own_below D1.out.row hb7) hkn
          clear hb7 HDr hcv hcat
          go_wp2
          refine ⟨⟨i + 1, _, _, _, V1, by omega, by go_num, D2.out⟩, by simp [intOf]; omega⟩
      · obtain rfl : i = m := by omega
        have HBr : Hid (Below w.heap.size w wr) := HB1.out.trans (hb.mono HB1.out.size)
        have HTr := Lib.hid (tab_keep (ok := fun _ => False) HT.out (.of_below HBr.out) id (by omega))
        clear hb
        have hbt : total d ≤ 200000 := by
          have h1 := sum_le_of d (fun x => x.2.size) (fun _ => 16384) fun x hx => (DR.out.nms x hx).2
          have e : (d.map fun _ => 16384).sum = 16384 * d.length := by
            generalize d = l
            induction l with
            | nil => rfl
            | cons a r ih => simp only [List.map_cons, List.sum_cons, List.length_cons, ih]; omega
          have := DR.out.dl
          unfold total; omega
        have hbc := build_cnt (kept ds n)
        have hbk : total (kept ds n) ≤ 200000 := by have := total_kept ds n; omega
        have hpc : S.p.cnt ≤ 200000 ∧ S.p.sto ≤ 200000 := by rw [DR.out.sp]; omega
        have hnl : S.nm.length ≤ 12 := by
          have h := congrArg List.length DR.out.has.nm
          simp [St.order] at h
          have := DR.out.dl; omega
        have HBt := Lib.hid hbt
        obtain ⟨hpc1, hpc2⟩ := hpc
        have HSt1 := Lib.hid (stats_any wr DR.out.am DR.out.srt.nodup (by rw [DR.out.has.bytes]; omega) (by omega) (by omega) (by omega))
        clear hbc hbk hlt
        go_wp2_with fail
        (with_reducible refine HSt1.out.mono ?_); rintro e wA ⟨rfl, hbA⟩
        unfold statsV
        have HbA := Lib.hid (hbA.alloc hbA.size (Obj.cells #[.int .i64 (S.nm.length : Int), .int .i64 (S.bytes : Int), .int .i64 (S.p.cnt : Int), .int .i64 (S.p.sto : Int)] 37))
        have DB := Lib.hid (DR.out.later HbA.out)
        have HX1 := Lib.hid (Blk.new wA 37 #[.int .i64 (S.nm.length : Int), .int .i64 (S.bytes : Int), .int .i64 (S.p.cnt : Int), .int .i64 (S.p.sto : Int)])
        have HBB := Lib.hid (HBr.out.trans (HbA.out.mono HBr.out.size))
        have HTB := Lib.hid (tab_keep (ok := fun _ => False) HTr.out (.of_below HbA.out) id (by have := HBr.out.size; omega))
        have hlX1 : wA.heap.size + 1 = (wA.alloc (Obj.cells #[.int .i64 (S.nm.length : Int), .int .i64 (S.bytes : Int), .int .i64 (S.p.cnt : Int), .int .i64 (S.p.sto : Int)] 37)).heap.size := by simp
        have hszA := HbA.out.size
        clear hbA HSt1
        go_wp2_with fail
        generalize wA.alloc (Obj.cells #[.int .i64 (S.nm.length : Int), .int .i64 (S.bytes : Int), .int .i64 (S.p.cnt : Int), .int .i64 (S.p.sto : Int)] 37) = wB at *
        generalize wA.heap.size = X1 at *
        have HCo := Lib.hid (collect_any wB DB.out.am HTB.out (by have := HB1.out.size; omega) DB.out.has DB.out.srt (by have := DB.out.dl; omega) (fun x hx => by
          obtain ⟨⟨j, hj, e⟩, h2⟩ := DB.out.nms x hx
          exact ⟨by rw [e, nm_size]; decide, h2⟩) (by omega) (by omega) (by have := DB.out.n; have := DB.out.dl; omega))
        (with_reducible refine HCo.out.mono ?_); rintro e wC ⟨V4, rfl, amC, frC, fnC, nC⟩
        have AMC := Lib.hid amC
        have HX1C := Lib.hid (frC.Blk HX1.out (by have h := HX1.out; unfold Blk at h; exact DB.out.am.not_fp h (by decide) (by decide)))
        have HBC := Lib.hid (HBB.out.trans (frC.below (fun b e => by have := (DB.out.am.fp_lt e).1; have := HB1.out.size; omega) HBB.out.size))
        have ROWC := Lib.hid (frC.own DB.out.row DB.out.sep)
        have SEPC : Hid (∀ b, (Value.slice (some ⟨go, 0, none⟩) n co).ownBlock = some b → ¬ Fp A V4 b) := fun b hb e => by
          rcases fnC b e with e2 | e2
          · exact DB.out.sep b hb e2
          · have := (own_lt DB.out.row b hb).2; omega
        have HTC := Lib.hid (tab_keep HTB.out frC (fun e => by have := (DB.out.am.fp_lt e).1; have := HB1.out.size; omega) (by have := HBB.out.size; omega))
        have hnC : V4.n ≤ 500000 := by have := DB.out.n; have := DB.out.dl; omega
        have hszC : X1 + 1 ≤ wC.heap.size := by have := frC.size; omega
        have hbcC := build_cnt d
        have hordC := (build_has d).nm
        have SRTC : Hid (Srt (build d).order) := by rw [hordC, ← DR.out.has.nm]; exact DR.out.srt
        have hnlC : (build d).nm.length = S.nm.length := by
          have h := congrArg List.length DR.out.has.nm
          have h2 := congrArg List.length hordC
          simp [St.order] at h h2; omega
        have hbyC : (build d).bytes = S.bytes := by rw [(build_has d).bytes, DR.out.has.bytes]
        have HnlC := Lib.hid hnlC
        have HbyC := Lib.hid hbyC
        have HSt2 := Lib.hid (stats_any wC AMC.out SRTC.out.nodup (by rw [(build_has d).bytes]; omega) (by omega) (by omega) (by omega))
        have hstC := hbcC.2
        clear amC frC fnC nC HCo hbcC hordC hnlC hbyC
        go_wp2_with fail
        (with_reducible refine HSt2.out.mono ?_); rintro e wD ⟨rfl, hbD⟩
        unfold statsV
        have HbD := Lib.hid (hbD.alloc hbD.size (Obj.cells #[.int .i64 ((build d).nm.length : Int), .int .i64 ((build d).bytes : Int), .int .i64 ((build d).p.cnt : Int), .int .i64 ((build d).p.sto : Int)] 37))
        have HX2 := Lib.hid (Blk.new wD 37 #[.int .i64 ((build d).nm.length : Int), .int .i64 ((build d).bytes : Int), .int .i64 ((build d).p.cnt : Int), .int .i64 ((build d).p.sto : Int)])
        have hlX2 : wD.heap.size + 1 = (wD.alloc (Obj.cells #[.int .i64 ((build d).nm.length : Int), .int .i64 ((build d).bytes : Int), .int .i64 ((build d).p.cnt : Int), .int .i64 ((build d).p.sto : Int)] 37)).heap.size := by simp
        clear hbD HSt2
        go_wp2_with fail
        generalize wD.alloc (Obj.cells #[.int .i64 ((build d).nm.length : Int), .int .i64 ((build d).bytes : Int), .int .i64 ((build d).p.cnt : Int), .int .i64 ((build d).p.sto : Int)] 37) = wE at *
        generalize wD.heap.size = X2 at *
        have AME := Lib.hid (AMC.out.later HbD.out)
        have HX1E := Lib.hid (HX1C.out.below HbD.out (by omega))
        have HBE := Lib.hid (HBC.out.trans (HbD.out.mono HBC.out.size))
        have ROWE := Lib.hid (own_below ROWC.out HbD.out)
        have HTE := Lib.hid (tab_keep (ok := fun _ => False) HTC.out (.of_below HbD.out) id (by have := HBC.out.size; omega))
        have hszE : X1 + 1 ≤ wE.heap.size := by have := HbD.out.size; omega
        (with_reducible refine (new_any wE).mono ?_); rintro e wF ⟨A2, V5, rfl, amF, hbF, hnF⟩
        have AMF := Lib.hid amF
        have HBF := Lib.hid hbF
        have AMEF := Lib.hid (AME.out.later hbF)
        clear amF hbF
        go_wp2_with fail
        have hlo : (build d).order.length ≤ 1000000 := by rw [(build_has d).nm, List.length_map]; have := DR.out.dl; omega
        (with_reducible refine (names_any wF AMEF.out hlo).mono ?_); rintro e wG ⟨vn, rfl, hon, hbG⟩
        have HBG := Lib.hid (HBF.out.trans (hbG.mono HBF.out.size))
        have hdl2 : (build d).order.length = d.length := by rw [(build_has d).nm, List.length_map]
        rw [hdl2] at hon
        obtain ⟨An, cn, rfl⟩ := own_form hon
        have hszF := HBF.out.size
        have R0 : Hid (CopyR d wE wF A2 0 V5 (.slice An d.length cn) wG) := ⟨AMF.out.later hbG, hon, fun b hb e => by have := (own_lt hon b hb).1; have := (AMF.out.fp_lt e).2; omega, HBG.out, by omega⟩
        have hd12 := DR.out.dl
        clear hon hbG hlo hnF
        clear hdl2
        go_wp2
        obtain ⟨nd, hnd⟩ : ∃ nd, d.length = nd := ⟨_, rfl⟩
        have HNd := Lib.hid hnd
        rw [hnd] at hd12 ⊢
        clear hnd
        go_loopw [71] (fun v71 wr => ∃ (i : Nat) (V6 : AV), i ≤ nd ∧ v71 = .int .i64 (i : Int) ∧ CopyR d wE wF A2 i V6 (.slice An d.length cn) wr) (fun v71 _ => nd - (intOf v71).toNat)
        case atStart => exact ⟨0, V5, by omega, rfl, R0.out⟩
        case round =>
          obtain ⟨i2, V6, hi2, rfl, cr⟩ := hrel
          have CR := Lib.hid cr
          have hbr := cr.bl
          clear cr
          by_cases hlt2 : i2 < nd
          · have hid : i2 < d.length := by have := HNd.out; omega
            obtain ⟨⟨q, hq, hqn⟩, hx2⟩ := DR.out.nms _ (List.getElem_mem hid)
            obtain ⟨gn, capn, en, _, hgn, _, _, hcn⟩ := own_cells CR.out.row (by omega)
            injection en with en1 _ en3
            subst en1
            subst en3
            have hord : (build d).order[i2]? = some d[i2].1 := by rw [(build_has d).nm, List.getElem?_map, List.getElem?_eq_getElem hid]; rfl
            have hcell := hcn i2 (.string d[i2].1) (by unfold strs; rw [List.getElem?_map, hord]; rfl)
            have HG := Lib.hid (get_has wr (AME.out.later hbr) (build_has d) i2 d[i2] (List.getElem?_eq_getElem hid) (by rw [hqn, nm_size]; decide) hx2)
            have HSucc : Hid (build (d.take (i2 + 1)) = (build (d.take i2)).add d[i2].1 d[i2].2) := by rw [List.take_succ_eq_append_getElem hid, build_snoc]; rfl
            have HLs : Hid (∀ y ∈ (build (d.take i2)).order, less y d[i2].1 = true) := fun y hy => by
              rw [(build_has _).nm, List.map_take] at hy
              obtain ⟨j, hj, e⟩ := List.mem_iff_getElem.1 hy
              have hj2 : j < i2 := by simp at hj; omega
              rw [List.getElem_take, List.getElem_map] at e
              have hs := SRTC.out
              rw [(build_has d).nm] at hs
              have := List.pairwise_iff_getElem.1 hs j i2 (by simp; omega) (by simpa using hid) hj2
              rw [List.getElem_map, List.getElem_map] at this
              rw [← e]; exact this
            have hgood : Good d[i2].1 := by rw [hqn]; exact good_nm hq
            have HGd := Lib.hid hgood
            have hsz9 := hx2
            have hlen9 : (build (d.take i2)).order.length < 64 := by rw [(build_has _).nm, List.length_map, List.length_take]; omega
            have HL9 := Lib.hid hlen9
            clear hord hcn hgood hlen9 hgn hqn
            generalize d[i2].1 = name at *
            generalize d[i2].2 = s at *
            go_wp2_with fail
            (with_reducible refine HG.out.mono ?_); rintro e w6 ⟨rfl, hb6⟩
            have HB6 := Lib.hid hb6
            have HBE6 := Lib.hid (hbr.trans (hb6.mono hbr.size))
            have AM6 := Lib.hid (CR.out.am.later hb6)
            have ROW6 := Lib.hid (own_below CR.out.row hb6)
            have HT6 := Lib.hid (tab_keep (ok := fun _ => False) HTE.out (.of_below HBE6.out) id (by omega))
            have HPt := Lib.hid (put_new name s w6 AM6.out HT6.out (by omega) HGd.out hsz9 (by have := CR.out.n; omega) (fun j hj => HLs.out _ (by rw [List.getD_eq_getElem?_getD, List.getElem?_eq_getElem hj]; exact List.getElem_mem hj)) HL9.out)
            clear hb6 HG hcell
            go_wp2_with fail
            (with_reducible refine HPt.out.mono ?_); rintro e w7 ⟨V7, rfl, am7, fr7, fn7, n7⟩
            have R1 : Hid (CopyR d wE wF A2 (i2 + 1) V7 (.slice (some ⟨gn, 0, none⟩) d.length cn) w7) := ⟨by rw [HSucc.out]; exact am7, fr7.own ROW6.out CR.out.sep, fun b hb e => by
              rcases fn7 b e with e2 | e2
              · exact CR.out.sep b hb e2
              · have := (own_lt ROW6.out b hb).2; omega, HBE6.out.trans (fr7.below (fun b e => (AM6.out.fp_lt e).1) HBE6.out.size), by have := CR.out.n; omega⟩
            clear am7 fr7 fn7 n7 HPt
            go_wp2
            refine ⟨⟨i2 + 1, V7, by omega, by go_num, R1.out⟩, by simp [intOf]; omega⟩
          · obtain rfl : i2 = nd := by omega
            have htk : d.take i2 = d := by rw [← HNd.out, List.take_length]
            have hbd := hbr.drew
            have AMb : Hid (AM wE.heap.size A2 (build d) V6 wr.drew) := by have := CR.out.am.later (Below.refl _ wr).drew; rw [htk] at this; exact this
            have AMa := Lib.hid (AME.out.later hbd)
            have BX1 := Lib.hid (HX1E.out.below hbd (by omega))
            have BX2 := Lib.hid (HX2.out.below hbd (by omega))
            have ROWr := Lib.hid (own_below ROWE.out hbd)
            have HBr2 := Lib.hid (HBE.out.trans (hbd.mono HBE.out.size))
            have hbc := build_cnt d
            have hnm9 : (build d).nm.length ≤ 12 := by have := HnlC.out; omega
            have hby9 : (build d).bytes ≤ 200000 := by rw [(build_has d).bytes]; exact hbt
            have HH := Lib.hid (holds_any os (.slice (some ⟨go, 0, none⟩) n co) _ wr.drew AMa.out (build_has d) (Sl.of_own ROWr.out) (by rw [DR.out.ol]; exact hn12) (fun i hi => by
              have := DR.out.agr i hi
              rwa [← (build_has d).nm] at this))
            have HS3 : Hid (∀ w', Below wr.drew.heap.size wr.drew w' → Calls Tryd.prog 13 #[.pointer (some ⟨A2, 0, none⟩)] w' (StatsOk (build d) w')) := fun w' hb => stats_any w' (AMb.out.later hb) SRTC.out.nodup (by omega) (by omega) (by omega) (by omega)
            have HTr2 := Lib.hid (tab_keep (ok := fun _ => False) HT.out (.of_below HBr2.out) id (by omega))
            have HC3 : Hid (∀ w', Below wr.drew.heap.size wr.drew w' → Calls Tryd.prog 14 #[.pointer (some ⟨A, 0, none⟩)] w' (CollectOk w1.heap.size A (build d) V4 d w')) := fun w' hb =>
              collect_any w' (AMa.out.later hb) (tab_keep (ok := fun _ => False) HTr2.out (.of_below hb) id (by have := HBr2.out.size; omega)) (by have := HB1.out.size; omega) (build_has d) SRTC.out (by have := DR.out.dl; omega) (fun x hx => by
                obtain ⟨⟨j, hj, e⟩, h2⟩ := DR.out.nms x hx
                exact ⟨by rw [e, nm_size]; decide, h2⟩) (by omega) (by omega) (by have := DR.out.dl; omega)
            have hnl9 : (build d).nm.length = S.nm.length := HnlC.out
            rw [hnl9] at BX2
            have HSk : Hid (∀ w', Below wr.drew.heap.size wr.drew w' → w'.cell? ⟨X1, 3, none⟩ = some (.int .i64 (S.p.sto : Int)) ∧ w'.cell? ⟨X2, 3, none⟩ = some (.int .i64 ((build d).p.sto : Int)) ∧ w'.cell? ⟨X1, 0, none⟩ = some (.int .i64 (S.nm.length : Int)) ∧ w'.cell? ⟨X2, 0, none⟩ = some (.int .i64 (S.nm.length : Int)) ∧ w'.cell? ⟨X2, 1, none⟩ = some (.int .i64 ((build d).bytes : Int)) ∧ w'.cell? ⟨X2, 2, none⟩ = some (.int .i64 ((build d).p.cnt : Int))) := fun w' hb => by
              have b1 := BX1.out.below hb (by have := BX1.out.lt; omega)
              have b2 := BX2.out.below hb (by have := BX2.out.lt; omega)
              exact ⟨b1.cell 3, b2.cell 3, b1.cell 0, b2.cell 0, b2.cell 1, b2.cell 2⟩
            have HSc : Hid (∀ w4 w5, Below wr.drew.heap.size wr.drew w4 → Fr (Fp A V4) w4 w5 → w5.cell? ⟨X1, 3, none⟩ = some (.int .i64 (S.p.sto : Int)) ∧ w5.cell? ⟨X2, 3, none⟩ = some (.int .i64 ((build d).p.sto : Int)) ∧ w5.cell? ⟨X1, 0, none⟩ = some (.int .i64 (S.nm.length : Int)) ∧ w5.cell? ⟨X2, 0, none⟩ = some (.int .i64 (S.nm.length : Int)) ∧ w5.cell? ⟨X2, 1, none⟩ = some (.int .i64 ((build d).bytes : Int)) ∧ w5.cell? ⟨X2, 2, none⟩ = some (.int .i64 ((build d).p.cnt : Int))) := fun w4 w5 hb hf => by
              have a4 := AMa.out.later hb
              have b1 := BX1.out.below hb (by have := BX1.out.lt; omega)
              have b2 := BX2.out.below hb (by have := BX2.out.lt; omega)
              have c1 := hf.Blk b1 (by have h := b1; unfold Blk at h; exact a4.not_fp h (by decide) (by decide))
              have c2 := hf.Blk b2 (by have h := b2; unfold Blk at h; exact a4.not_fp h (by decide) (by decide))
              exact ⟨c1.cell 3, c2.cell 3, c1.cell 0, c2.cell 0, c2.cell 1, c2.cell 2⟩
            have HLow : Hid (∀ w4 w5, Below wr.drew.heap.size wr.drew w4 → Fr (Fp A V4) w4 w5 → Below w.heap.size w w5) := fun w4 w5 hb hf => (HBr2.out.trans (hb.mono HBr2.out.size)).trans (hf.below (fun b e => by have := ((AMa.out.later hb).fp_lt e).1; have := HB1.out.size; omega) (Nat.le_trans HBr2.out.size hb.size))
            have HNl9 := Lib.hid hnl9
            have HStV : Hid (statsV (build d) = .agg #[.int .i64 (S.nm.length : Int), .int .i64 ((build d).bytes : Int), .int .i64 ((build d).p.cnt : Int), .int .i64 ((build d).p.sto : Int)]) := by unfold statsV; rw [hnl9]; exact rfl
            have hsto1 := hbc.2
            have hcnt1 := hbc.1
            clear htk hbd hbr hbc hnl9
            generalize S.nm.length = nl at *
            generalize S.p.sto = s0 at *
            generalize hsx : (build d).p.sto = s1 at *
            generalize (build d).bytes = by1 at *
            generalize (build d).p.cnt = cn1 at *
            have HSx := Lib.hid hsx
            clear hsx
            have eW : IntKind.i64.wrap ((s0 : Int) - (s1 : Int)) = (s0 : Int) - (s1 : Int) := IntWalk.i64_in _ (by omega)
            go_upto_region 24 with (fail)
            go_region_held3 (fun w' => w'.cell? ⟨X1, 3, none⟩ = some (.int .i64 (s0 : Int)) ∧ w'.cell? ⟨X2, 3, none⟩ = some (.int .i64 (s1 : Int)) ∧ w'.cell? ⟨X1, 0, none⟩ = some (.int .i64 (nl : Int)) ∧ w'.cell? ⟨X2, 0, none⟩ = some (.int .i64 (nl : Int)) ∧ w'.cell? ⟨X2, 1, none⟩ = some (.int .i64 (by1 : Int)) ∧ w'.cell? ⟨X2, 2, none⟩ = some (.int .i64 (cn1 : Int)))
              (first | exact HSc.out _ _ hb4 fr5 | exact HSk.out _ hb4 | exact HSk.out _ hb3 | exact HSk.out _ (Below.refl _ _))
              (first | (go_at_call 19; refine HH.out.mono ?_; rintro e w3 ⟨rfl, hb3⟩) | (go_at_call 13; refine (HS3.out _ hb3).mono ?_; rintro e w4 ⟨rfl, hb34⟩; rw [HStV.out]; have hb4 := hb3.trans (hb34.mono hb3.size)) | (go_at_call 14; refine (HC3.out _ hb4).mono ?_; rintro e w5 ⟨V8, rfl, am5, fr5, fn5, n5⟩; rw [HSx.out, Int.sub_self]))
            have HF := Lib.hid (HLow.out _ _ hb4 fr5)
            clear hb3 hb34 hb4 am5 fr5 fn5 n5
            go_wp2
            go_ret
            exact ⟨rfl, HF.out⟩
end Go.Proofs.YtpfkmjckjomeeaaDoor
