/- The walk of Print. -/
import Derived.Test.YtcbnelklilamgaaDoorVryQt
import Derived.Test.YtcbnelklilamgaaDoorVryBx
namespace Go.Proofs.YtcbnelklilamgaaDoor
open Go.RowKit Vr
theorem namesE_step {pre : List Src} {x : Src} {r : List Src} : namesE pre (x :: r) = if nameB x = true then (if pre.contains x = true then 7 else namesE (pre ++ [x]) r) else 6 := rfl
theorem take_snoc (f : List Src) (i : Nat) (h : i < f.length) : f.take (i + 1) = f.take i ++ [f[i]] := by rw [List.take_add_one, List.getElem?_eq_getElem h]; rfl
theorem names_at (f : List Src) (i : Nat) (h : i < f.length) : namesE (f.take i) (f.drop i) = if nameB f[i] = true then (if (f.take i).contains f[i] = true then 7 else namesE (f.take (i + 1)) (f.drop (i + 1))) else 6 := by
  rw [List.drop_eq_getElem_cons h, namesE_step, take_snoc f i h]
theorem join_jn : ∀ l : List Src, Lib.join l [44] = jn l
  | [] => rfl
  | [x] => by simp [Lib.join, jn]
  | x :: y :: r => by
    have ih := join_jn (y :: r)
    unfold Lib.join at *
    rw [jn, ← ih]
    simp [List.intercalate, List.intersperse]
theorem jn_snoc : ∀ (l : List Src) (x : Src), l ≠ [] → jn (l ++ [x]) = jn l ++ 44 :: x
  | [], _, h => absurd rfl h
  | [y], x, _ => rfl
  | y :: z :: r, x, _ => by
    have ih := jn_snoc (z :: r) x (by simp)
    simp only [List.cons_append, jn] at *
    rw [ih]
    simp
/-- The first j values of a row, as they are written. -/
def pt (r : List Src) (j : Nat) : Src := jn ((r.take j).map quo)
theorem pt_step (r : List Src) (j : Nat) (h : j < r.length) : pt r (j + 1) = if j = 0 then quo (r.getD j []) else pt r j ++ 44 :: quo (r.getD j []) := by
  have e : r.getD j [] = r[j] := by rw [List.getD_eq_getElem?_getD, List.getElem?_eq_getElem h]; rfl
  unfold pt
  rw [take_snoc r j h, List.map_append, e]
  by_cases hj : j = 0
  · subst hj; simp [jn]
  · rw [if_neg hj]
    exact jn_snoc _ _ (fun e2 => by
      have := congrArg List.length e2
      rw [List.length_map, List.length_take, List.length_nil] at this
      omega)
theorem pt_len (r : List Src) (hr : ∀ s ∈ r, s.length < 4294967281) : ∀ j, j ≤ r.length → (pt r j).length ≤ j * 8589934570
  | 0, _ => by simp [pt, jn]
  | j + 1, h => by
    have ih := pt_len r hr j (by omega)
    have hq := quo_len (r.getD j [])
    have hm := hr (r.getD j []) (by rw [List.getD_eq_getElem?_getD, List.getElem?_eq_getElem (by omega)]; exact List.getElem_mem _)
    rw [pt_step r j (by omega)]
    split
    · omega
    · simp only [List.length_append, List.length_cons]; omega
theorem rowsE_step (n : Nat) (acc : Src) (r : List Src) (rs : List (List Src)) : rowsE n acc (r :: rs) = if r.length ≠ n then (4, []) else if 8192 < (acc ++ rowT r).length then (2, []) else rowsE n (acc ++ rowT r) rs := rfl
theorem rows_at (n : Nat) (acc : Src) (rows : List (List Src)) (i : Nat) (h : i < rows.length) : rowsE n acc (rows.drop i) = if (rows.getD i []).length ≠ n then (4, []) else if 8192 < (acc ++ rowT (rows.getD i [])).length then (2, []) else rowsE n (acc ++ rowT (rows.getD i [])) (rows.drop (i + 1)) := by
  rw [List.drop_eq_getElem_cons h, rowsE_step, List.getD_eq_getElem?_getD, List.getElem?_eq_getElem h]
  rfl
theorem contains_bs (l : List Src) (x : Src) : Lib.containsS (l.map fun s => Bs s) (Bs x) = l.contains x := by
  rw [Bool.eq_iff_iff, Lib.containsS_iff, List.mem_map]
  constructor
  · rintro ⟨y, hy, e⟩
    have h1 := congrArg (fun b : ByteArray => b.data.toList) e
    have : y = x := by simpa using h1
    subst this
    simpa using hy
  · intro h; exact ⟨x, by simpa using h, rfl⟩
set_option maxRecDepth 100000 in
set_option maxHeartbeats 16000000 in
theorem print_any (f : List Src) (rows : List (List Src)) (fv rv : Value) (P Q : Nat → Prop) (w : World) (hf : StM P w fv f) (hr : RwM Q w rv rows) (hfs : ∀ s ∈ f, s.length < 4294967281) (hrs : ∀ r ∈ rows, ∀ s ∈ r, s.length < 4294967281) (hM : Mx w) :
    Calls Tryd.prog 7 #[.agg #[fv, rv]] w fun e w' => e = .returned (.tuple #[.string (Bs (printP f rows).2), .int .i64 (printP f rows).1]) ∧ Below w.heap.size w w' := by
  have HP : Hid (printP f rows = if 16 < f.length ∨ 256 < rows.length then (2, []) else if f.length = 0 then (8, []) else if namesE [] f ≠ 0 then (namesE [] f, []) else rowsE f.length (headT f) rows) := rfl
  generalize printP f rows = PP at *
  have HF := Lib.hid hf
  have HR := Lib.hid hr
  have HFs := Lib.hid hfs
  have HRs := Lib.hid hrs
  have HM := Lib.hid hM
  obtain ⟨A1, c1, rfl⟩ := SlM.form hf
  obtain ⟨A2, c2, rfl⟩ := hr.form
  have hc1 := hf.caps
  clear hf hr hfs hrs hM
  generalize hfn : f.length = fn at *
  generalize hrn : rows.length = rn at *
  have HFn := Lib.hid hfn
  have HRn := Lib.hid hrn
  clear hfn hrn
  have hk1 := Blk.new w 25 #[.slice A1 fn c1, .slice A2 rn c2]
  have HB1 := Lib.hid ((Below.refl w.heap.size w).alloc (Nat.le_refl _) (.cells #[.slice A1 fn c1, .slice A2 rn c2] 25))
  go_enter Tryd.func7, Tryd.ntmps7
  go_upto_region 1 with (fail)
  generalize w.alloc (.cells #[.slice A1 fn c1, .slice A2 rn c2] 25) = w1 at *
  have x0 : w1.cell? ⟨w.heap.size, 0, none⟩ = some (.slice A1 fn c1) := by simpa using hk1.cell 0
  have x1 : w1.cell? ⟨w.heap.size, 1, none⟩ = some (.slice A2 rn c2) := by simpa using hk1.cell 1
  have xl := hk1.lt
  have HK := Lib.hid hk1
  clear hk1
  by_cases h16 : fn ≤ 16
  case neg =>
    have t0 : decide ((16 : Int) < (fn : Int)) = true := by simp; omega
    go_wp2_with fail
    go_ret2
    exact ⟨by rw [HP.out, if_pos (.inl (by omega))]; rfl, HB1.out⟩
  have t0 : decide ((16 : Int) < (fn : Int)) = false := by simp; omega
  by_cases h256 : rn ≤ 256
  case neg =>
    have t1 : decide ((256 : Int) < (rn : Int)) = true := by simp; omega
    go_wp2_with fail
    go_ret2
    exact ⟨by rw [HP.out, if_pos (.inr (by omega))]; rfl, HB1.out⟩
  have t1 : decide ((256 : Int) < (rn : Int)) = false := by simp; omega
  by_cases h00 : fn = 0
  case pos =>
    have HPz : Hid (PP = (8, [])) := by rw [HP.out, if_neg (by omega), if_pos h00]; exact rfl
    clear HP
    subst h00
    go_wp2_with fail
    go_ret2
    exact ⟨by rw [HPz.out]; rfl, HB1.out⟩
  have t2 : ((fn : Int) == 0) = false := by rw [beq_eq_false_iff_ne]; omega
  have HP2 : Hid (PP = if namesE [] f ≠ 0 then (namesE [] f, []) else rowsE fn (headT f) rows) := by rw [HP.out, if_neg (by omega), if_neg h00]; exact rfl
  clear HP
  have hcap : fn ≤ c1 ∧ c1 ≤ maxLen := hc1.2
  have hmx : maxLen = 9223372036854775807 := rfl
  obtain ⟨fb, fo, rfl, hfl, hfc⟩ := StM.at_ HF.out (by rw [HFn.out]; omega)
  have HFc : Hid (∀ i, i < fn → w1.cell? ⟨fb, fo + i, none⟩ = some (.string (Bs (f.getD i [])))) := fun i hi => by
    have hi2 : i < f.length := by rw [HFn.out]; exact hi
    rw [HB1.out.cell (p := ⟨fb, fo + i, none⟩) hfl, hfc i hi2, List.getD_eq_getElem?_getD, List.getElem?_eq_getElem hi2]
    rfl
  have hfl2 := Nat.lt_of_lt_of_le hfl HB1.out.size
  have HPl := Lib.hid (fun i (hi : i < fn) W => plain_any (f.getD i []) W (by
    have hi2 : i < f.length := by rw [HFn.out]; exact hi
    have := HFs.out _ (List.getElem_mem hi2)
    rw [List.getD_eq_getElem?_getD, List.getElem?_eq_getElem hi2]
    show (f[i]).length ≤ maxLen
    omega))
  have HCo : Hid (∀ i, i < fn → Calls Tryd.prog 19 #[.slice (some ⟨fb, fo, none⟩) i c1, .string (Bs (f.getD i []))] w1 fun e w' => e = .returned (.bool ((f.take i).contains (f.getD i []))) ∧ w' = w1) := fun i hi => by
    have h1 := slices_Contains_string fb fo i c1 (f.map Bs) (Bs (f.getD i [])) w1 (by rw [List.length_map, HFn.out]; omega) (by omega) (fun j hj => by
      have hj2 : j < f.length := by simpa using hj
      rw [HFc.out j (by rw [← HFn.out]; exact hj2)]
      rw [List.getD_eq_getElem?_getD, List.getD_eq_getElem?_getD, List.getElem?_map, List.getElem?_eq_getElem hj2]; rfl)
    rw [← List.map_take, contains_bs] at h1
    exact h1
  have HNa : Hid (∀ i, i < fn → namesE (f.take i) (f.drop i) = if nameB (f.getD i []) = true then (if (f.take i).contains (f.getD i []) = true then 7 else namesE (f.take (i + 1)) (f.drop (i + 1))) else 6) := fun i hi => by
    have hi2 : i < f.length := by rw [HFn.out]; exact hi
    rw [names_at f i hi2, List.getD_eq_getElem?_getD, List.getElem?_eq_getElem hi2]
    rfl
  have HN0 : Hid (namesE (f.take 0) (f.drop 0) = namesE [] f) := rfl
  have HNe : Hid (namesE (f.take fn) (f.drop fn) = 0) := by rw [← HFn.out, List.drop_length]; rfl
  have HJ0 : Hid (namesE [] f = 0 → (jn f).length ≤ 272) := fun h => by
    have := jn_max f (names_all f [] h)
    rw [HFn.out] at this
    omega
  clear hfc hfl
  generalize namesE [] f = NE at *
  go_wp2_with fail
  go_loopw [4, 5, 28] (fun _ _ v28 wr => True ∧ ∃ i : Nat, i ≤ fn ∧ v28 = .int .i64 (i : Int) ∧ namesE (f.take i) (f.drop i) = NE ∧ wr = w1) (fun _ _ v28 _ => fn - (intOf v28).toNat)
  case atStart => exact ⟨trivial, 0, by omega, rfl, HN0.out, rfl⟩
  case round =>
    obtain ⟨-, i, hi, rfl, hne, rfl⟩ := hrel
    have HNi := Lib.hid hne
    clear hne
    by_cases hlt : i < fn
    · have t3 : decide ((i : Int) < (fn : Int)) = true := by simp; omega
      have y0 := HFc.out i hlt
      have HP1 := Lib.hid (HPl.out i hlt)
      have HC1 := Lib.hid (HCo.out i hlt)
      have HNx := HNa.out i hlt
      rw [HNi.out] at HNx
      have HNy := Lib.hid HNx
      clear HNx
      generalize f.getD i [] = x at *
      cases hnb : nameB x with
      | false =>
        rw [hnb] at HP1 HNy
        go_wp2_with fail
        refine (HP1.out _).mono ?_
        rintro e w3 ⟨rfl, rfl⟩
        go_wp2_with fail
        go_ret2
        have h6 : NE = 6 := HNy.out
        exact ⟨by rw [HP2.out, if_pos (by rw [h6]; decide), h6]; rfl, HB1.out⟩
      | true =>
        rw [hnb] at HP1 HNy
        cases hct : (f.take i).contains x with
        | true =>
          rw [hct] at HC1 HNy
          have h7 : NE = 7 := HNy.out
          go_wp2_with fail
          refine (HP1.out _).mono ?_
          rintro e w3 ⟨rfl, rfl⟩
          go_wp2_with fail
          refine HC1.out.mono ?_
          rintro e w3 ⟨rfl, rfl⟩
          go_wp2_with fail
          go_ret2
          exact ⟨by rw [HP2.out, if_pos (by rw [h7]; decide), h7]; rfl, HB1.out⟩
        | false =>
          rw [hct] at HC1 HNy
          have h8 : NE = namesE (f.take (i + 1)) (f.drop (i + 1)) := HNy.out
          have H8 := Lib.hid h8
          clear h8
          go_wp2_with fail
          refine (HP1.out _).mono ?_
          rintro e w3 ⟨rfl, rfl⟩
          go_wp2_with fail
          refine HC1.out.mono ?_
          rintro e w3 ⟨rfl, rfl⟩
          go_wp2_with fail
          go_roundw
          case rel => exact ⟨trivial, i + 1, by omega, by go_num, H8.out.symm, by first | rfl | trivial⟩
          case measure => simp [intOf]; omega
    · have t3 : decide ((i : Int) < (fn : Int)) = false := by simp; omega
      obtain rfl : fn = i := by omega
      have HN9 : Hid (NE = 0) := by rw [← HNi.out]; exact HNe.out
      clear HNi HNe HNa HCo HPl HN0
      have hbw := (Below.refl wr.heap.size wr).alloc (Nat.le_refl _) (.cells #[.pointer none, .slice none 0 0] 49)
      have HJl : Hid ((jn f).length ≤ 272) := HJ0.out HN9.out
      have HP3 : Hid (PP = rowsE fn (headT f) rows) := by rw [HP2.out, if_neg (by rw [HN9.out]; decide)]; exact rfl
      have HJo : Hid (Calls Tryd.prog 21 #[.slice (some ⟨fb, fo, none⟩) fn c1, .string ⟨#[44]⟩] (wr.alloc (.cells #[.pointer none, .slice none 0 0] 49)) fun e w' => e = .returned (.string (Bs (jn f))) ∧ Below (wr.alloc (.cells #[.pointer none, .slice none 0 0] 49)).heap.size (wr.alloc (.cells #[.pointer none, .slice none 0 0] 49)) w') := by
        have e1 : (f.map Bs).map (·.data.toList) = f := by rw [List.map_map]; simp [Function.comp_def]
        have h1 := strings_Join fb fo c1 (f.map Bs) ⟨#[44]⟩ (wr.alloc (.cells #[.pointer none, .slice none 0 0] 49)) (fun j x hx => by
          rw [List.getElem?_map] at hx
          cases hfj : f[j]? with
          | none => rw [hfj] at hx; cases hx
          | some y =>
            rw [hfj] at hx
            have hj : j < fn := by rw [← HFn.out]; exact (List.getElem?_eq_some_iff.1 hfj).1
            have h2 := (hbw.cell (p := ⟨fb, fo + j, none⟩) hfl2).trans (HFc.out j hj)
            rw [h2, List.getD_eq_getElem?_getD, hfj]
            simpa using hx) (Nat.lt_of_lt_of_le hfl2 hbw.size) (by rw [List.length_map, HFn.out]; omega) (by rw [List.length_map, HFn.out]; exact hcap.1) (by
          rw [e1, show (⟨#[44]⟩ : ByteArray).data.toList = [44] from rfl, join_jn]
          have := HJl.out
          omega)
        rw [e1, show (⟨#[44]⟩ : ByteArray).data.toList = [44] from rfl, join_jn, List.length_map, HFn.out] at h1
        exact h1
      have HBx0 := Lib.hid (bx_new wr)
      have HBw := Lib.hid hbw
      have HKw := Lib.hid (HK.out.below hbw HK.out.lt)
      have hls : (wr.alloc (.cells #[.pointer none, .slice none 0 0] 49)).heap.size = wr.heap.size + 1 := by simp
      clear hbw
      go_wp2_with fail
      generalize wr.alloc (.cells #[.pointer none, .slice none 0 0] 49) = w2 at *
      refine HJo.out.mono ?_
      rintro e w3 ⟨rfl, hb3⟩
      have HBx3 := Lib.hid (bx_below HBx0.out hb3)
      have HB3 := Lib.hid (HBw.out.trans (hb3.mono HBw.out.size))
      have HK3 := Lib.hid (HKw.out.below hb3 HKw.out.lt)
      have hs3 := hb3.size
      have hjn := bs_size (jn f)
      have hJl := HJl.out
      have hEq : Bs (jn f) ++ (⟨#[10]⟩ : ByteArray) = Bs (headT f) := by
        apply ByteArray.ext
        apply Array.ext'
        simp [headT]
      clear hb3 HBx0 HBw HKw HJo HFc HJ0 HN9 HP2
      go_wp2_with fail
      refine (bx_write HBx3.out (Bs (headT f)) (by rw [bs_size, headT, List.length_append]; simp; omega) (by omega)).mono ?_
      rintro e w4 ⟨rfl, hbx4, hb4, -⟩
      rw [List.nil_append, bs_list] at hbx4
      have HBx4 := Lib.hid hbx4
      have HB4 := Lib.hid (HB3.out.trans hb4)
      have hs4 := hb4.size
      have HK4 := Lib.hid (HK.out.below HB4.out HK.out.lt)
      have HHl := Lib.hid (show (headT f).length ≤ 8192 by rw [headT, List.length_append]; simp; omega)
      have z0 : w4.cell? ⟨w.heap.size, 0, none⟩ = some (.slice (some ⟨fb, fo, none⟩) fn c1) := by simpa using HK4.out.cell 0
      have z1 : w4.cell? ⟨w.heap.size, 1, none⟩ = some (.slice A2 rn c2) := by simpa using HK4.out.cell 1
      have zl := HK4.out.lt
      clear hb4 hbx4 HBx3 HB3 HK3
      generalize headT f = HT at *
      go_wp2_with fail
      generalize wr = wq at *
      go_loopw [8, 9, 10, 51] (fun _ _ _ v51 wz => True ∧ ∃ (i : Nat) (acc : Src), i ≤ rn ∧ v51 = .int .i64 (i : Int) ∧ rowsE fn acc (rows.drop i) = PP ∧ acc.length ≤ 8192 ∧ Bx wq.heap.size wq.heap.size acc wz ∧ Below wq.heap.size wq wz ∧ wq.heap.size < wz.heap.size) (fun _ _ _ v51 _ => rn - (intOf v51).toNat)
      case atStart => exact ⟨trivial, 0, HT, by omega, rfl, HP3.out.symm, HHl.out, HBx4.out, HB4.out, by omega⟩
      case round =>
        obtain ⟨-, i, acc, hi, rfl, hre, hal, hbx, hbz, hlz⟩ := hrel
        have HRe := Lib.hid hre
        have HBx := Lib.hid hbx
        have HBz := Lib.hid hbz
        have HKz := Lib.hid (HK.out.below hbz HK.out.lt)
        clear hre hbx hbz
        by_cases hlt : i < rn
        · have t4 : decide ((i : Int) < (rn : Int)) = true := by simp; omega
          obtain ⟨rb, ro, rfl, hrl, hrc⟩ := RwM.at_ HR.out (by rw [HRn.out]; omega)
          have hi2 : i < rows.length := by rw [HRn.out]; exact hlt
          obtain ⟨Ar, cr, hcell, hst⟩ := hrc i hi2
          have hbw := HB1.out.trans (HBz.out.mono HB1.out.size)
          have e0 : rows.getD i [] = rows[i] := by rw [List.getD_eq_getElem?_getD, List.getElem?_eq_getElem hi2]; rfl
          have HRx := Lib.hid (rows_at fn acc rows i hi2)
          have HRz := Lib.hid (HRs.out rows[i] (List.getElem_mem hi2))
          rw [HRe.out] at HRx
          rw [← e0] at hcell hst HRz
          have y0 := (hbw.cell (p := ⟨rb, ro + i, none⟩) hrl).trans hcell
          have HSt := Lib.hid hst
          have hrl2 := Nat.lt_of_lt_of_le hrl hbw.size
          have q0 : wr.cell? ⟨w.heap.size, 0, none⟩ = some (.slice (some ⟨fb, fo, none⟩) fn c1) := by simpa using HKz.out.cell 0
          have ql := HKz.out.lt
          have HCpr := Lib.hid hst.caps
          clear hrc hcell hst hbw e0 hi2 z0 z1 zl
          generalize rows.getD i [] = r at *
          generalize hrm : r.length = m at *
          have HRm := Lib.hid hrm
          clear hrm
          by_cases hmf : m = fn
          case neg =>
            have u0 : ((m : Int) != (fn : Int)) = true := by rw [bne_iff_ne]; omega
            have H4 : Hid (PP = (4, [])) := by rw [HRx.out, if_pos hmf]; exact rfl
            go_wp2_with fail
            go_ret2
            exact ⟨by rw [H4.out]; rfl, HB1.out.trans (HBz.out.mono HB1.out.size)⟩
          have HRy : Hid (PP = if 8192 < (acc ++ rowT r).length then (2, []) else rowsE fn (acc ++ rowT r) (rows.drop (i + 1))) := by rw [HRx.out, if_neg (by omega)]; exact rfl
          clear HRx
          have u0 : ((m : Int) != (fn : Int)) = false := by rw [bne_eq_false_iff_eq]; omega
          obtain ⟨vb, vo, rfl, hvl, hvc⟩ := StM.at_ HSt.out (by rw [HRm.out]; omega)
          have HVc : Hid (∀ j, j < m → ∀ W, Below w.heap.size w W → W.cell? ⟨vb, vo + j, none⟩ = some (.string (Bs (r.getD j []))) ∧ vb < W.heap.size) := fun j hj W hW => by
            have hj2 : j < r.length := by rw [HRm.out]; exact hj
            refine ⟨?_, Nat.lt_of_lt_of_le hvl hW.size⟩
            rw [hW.cell (p := ⟨vb, vo + j, none⟩) hvl, hvc j hj2, List.getD_eq_getElem?_getD, List.getElem?_eq_getElem hj2]
            rfl
          have HQu : Hid (∀ j, j < m → ∀ W, Below w.heap.size w W → Calls Tryd.prog 23 #[.string (Bs (r.getD j []))] W fun e w' => e = .returned (.string (Bs (quo (r.getD j [])))) ∧ Below W.heap.size W w') := fun j hj W hW => by
            have hj2 : j < r.length := by rw [HRm.out]; exact hj
            refine quoted_any (r.getD j []) W ?_ (HM.out.later hW)
            rw [List.getD_eq_getElem?_getD, List.getElem?_eq_getElem hj2]
            exact HRz.out _ (List.getElem_mem hj2)
          have HQl : Hid (∀ j, j < m → (quo (r.getD j [])).length ≤ 8589934562) := fun j hj => by
            have hj2 : j < r.length := by rw [HRm.out]; exact hj
            have h1 := quo_len (r.getD j [])
            have h2 : (r.getD j []).length < 4294967281 := by
              rw [List.getD_eq_getElem?_getD, List.getElem?_eq_getElem hj2]
              exact HRz.out _ (List.getElem_mem hj2)
            omega
          have HPt : Hid (∀ j, j ≤ m → (pt r j).length ≤ j * 8589934570) := fun j hj => pt_len r HRz.out j (by rw [HRm.out]; exact hj)
          have HPs : Hid (∀ j, j < m → pt r (j + 1) = if j = 0 then quo (r.getD j []) else pt r j ++ 44 :: quo (r.getD j [])) := fun j hj => pt_step r j (by rw [HRm.out]; exact hj)
          have HPz : Hid (pt r 0 = []) := by unfold pt; exact rfl
          have HPm : Hid (pt r m ++ [10] = rowT r) := by
            unfold pt rowT
            rw [← HRm.out, List.take_length]
            exact rfl
          clear hvc hvl HSt HRz
          go_wp2_with fail
          generalize wr = wp at *
          go_loopw [9, 10, 63] (fun _ _ v63 wz => True ∧ ∃ j : Nat, j ≤ m ∧ v63 = .int .i64 (j : Int) ∧ Bx wq.heap.size wq.heap.size (acc ++ pt r j) wz ∧ Below wq.heap.size wq wz ∧ wq.heap.size < wz.heap.size) (fun _ _ v63 _ => m - (intOf v63).toNat)
          case atStart => exact ⟨trivial, 0, by omega, rfl, by rw [HPz.out, List.append_nil]; exact HBx.out, HBz.out, hlz⟩
          case round =>
            obtain ⟨-, j, hj, rfl, hbx, hbz, hlz2⟩ := hrel
            have HBx2 := Lib.hid hbx
            have HBz2 := Lib.hid hbz
            have hbw2 := HB1.out.trans (hbz.mono HB1.out.size)
            have hp1 := HPt.out j hj
            have hj16 : j ≤ 16 := by omega
            have hal2 : (acc ++ pt r j).length ≤ 8192 + j * 8589934570 := by rw [List.length_append]; omega
            clear hbx hbz
            by_cases hjm : j < m
            · have t5 : decide ((j : Int) < (m : Int)) = true := by simp; omega
              obtain ⟨v0, vl⟩ := HVc.out j hjm wr hbw2
              have HQj := Lib.hid (HQu.out j hjm)
              have hql := HQl.out j hjm
              have HPj := Lib.hid (HPs.out j hjm)
              have HBw2 := Lib.hid hbw2
              generalize r.getD j [] = v at *
              clear hbw2
              by_cases hj0 : j = 0
              · have t6 : decide ((0 : Int) < (j : Int)) = false := by simp; omega
                have t7 : decide (0 < j) = false := by simp; omega
                have HJz := Lib.hid hj0
                have HPk : Hid (acc ++ pt r j ++ quo v = acc ++ pt r (j + 1)) := by
                  rw [HPj.out, if_pos hj0, hj0, HPz.out, List.append_nil]; exact rfl
                clear hj0
                have HQ2 := Lib.hid (HQj.out wr HBw2.out)
                go_wp2_with fail
                refine HQ2.out.mono ?_
                rintro e w6 ⟨rfl, hb6⟩
                have HBx6 := Lib.hid (bx_below HBx2.out hb6)
                have HB6 := Lib.hid (HBz2.out.trans (hb6.mono (by omega)))
                have hs6 := hb6.size
                clear hb6
                go_wp2_with fail
                refine (bx_write HBx6.out (Bs (quo v)) (by rw [bs_size]; omega) (by omega)).mono ?_
                rintro e w7 ⟨rfl, hbx7, hb7, -⟩
                rw [bs_list, HPk.out] at hbx7
                have HBx7 := Lib.hid hbx7
                have HB7 := Lib.hid (HB6.out.trans hb7)
                have hs7 := hb7.size
                clear hbx7 hb7
                go_wp2_with fail
                go_roundw
                case rel => exact ⟨trivial, j + 1, by omega, by go_num, HBx7.out, HB7.out, by omega⟩
                case measure => simp [intOf]; omega
              · have t6 : decide ((0 : Int) < (j : Int)) = true := by simp; omega
                have t7 : decide (0 < j) = true := by simp; omega
                have HPk : Hid (acc ++ pt r j ++ [44] ++ quo v = acc ++ pt r (j + 1)) := by
                  rw [HPj.out, if_neg hj0]; simp [Hid]
                go_wp2_with fail
                refine (bx_byte HBx2.out 44 44 (by rfl) (by omega) (by omega)).mono ?_
                rintro e w5 ⟨rfl, hbx5, hb5, -⟩
                have HBx5 := Lib.hid hbx5
                have HB5 := Lib.hid (HBz2.out.trans hb5)
                have hs5 := hb5.size
                clear hbx5 hb5
                have HQ2 := Lib.hid (HQj.out w5 (HB1.out.trans (HB5.out.mono HB1.out.size)))
                go_wp2_with fail
                refine HQ2.out.mono ?_
                rintro e w6 ⟨rfl, hb6⟩
                have HBx6 := Lib.hid (bx_below HBx5.out hb6)
                have HB6 := Lib.hid (HB5.out.trans (hb6.mono (by omega)))
                have hs6 := hb6.size
                clear hb6
                go_wp2_with fail
                refine (bx_write HBx6.out (Bs (quo v)) (by rw [bs_size, List.length_append, List.length_singleton]; omega) (by omega)).mono ?_
                rintro e w7 ⟨rfl, hbx7, hb7, -⟩
                rw [bs_list, HPk.out] at hbx7
                have HBx7 := Lib.hid hbx7
                have HB7 := Lib.hid (HB6.out.trans hb7)
                have hs7 := hb7.size
                clear hbx7 hb7
                go_wp2_with fail
                go_roundw
                case rel => exact ⟨trivial, j + 1, by omega, by go_num, HBx7.out, HB7.out, by omega⟩
                case measure => simp [intOf]; omega
            · have t5 : decide ((j : Int) < (m : Int)) = false := by simp; omega
              obtain rfl : m = j := by omega
              have HPk : Hid (acc ++ pt r m ++ [10] = acc ++ rowT r) := by rw [List.append_assoc, HPm.out]; exact rfl
              go_wp2_with fail
              refine (bx_byte HBx2.out 10 10 (by rfl) (by omega) (by omega)).mono ?_
              rintro e w5 ⟨rfl, hbx5, hb5, -⟩
              rw [HPk.out] at hbx5
              have HBx5 := Lib.hid hbx5
              have HB5 := Lib.hid (HBz2.out.trans hb5)
              have hs5 := hb5.size
              clear hbx5 hb5
              go_wp2_with fail
              refine (bx_len HBx5.out).mono ?_
              rintro e w6 ⟨rfl, rfl⟩
              by_cases hbig : 8192 < (acc ++ rowT r).length
              · have t8 : decide ((8192 : Int) < ((acc ++ rowT r).length : Int)) = true := decide_eq_true (by omega)
                have H2 : Hid (PP = (2, [])) := by rw [HRy.out, if_pos hbig]; exact rfl
                generalize (acc ++ rowT r).length = L at *
                go_wp2_with fail
                go_ret2
                exact ⟨by rw [H2.out]; rfl, HB1.out.trans (HB5.out.mono HB1.out.size)⟩
              · have t8 : decide ((8192 : Int) < ((acc ++ rowT r).length : Int)) = false := decide_eq_false (by omega)
                have H2 : Hid (rowsE fn (acc ++ rowT r) (rows.drop (i + 1)) = PP) := by
                  have h := HRy.out
                  rw [if_neg hbig] at h
                  exact h.symm
                have hbig2 : (acc ++ rowT r).length ≤ 8192 := by omega
                generalize hL : (acc ++ rowT r).length = L at *
                have HL := Lib.hid hL
                clear hL
                go_wp2_with fail
                go_roundw
                case rel => exact ⟨trivial, i + 1, acc ++ rowT r, by omega, by go_num, H2.out, by rw [HL.out]; exact hbig2, HBx5.out, HB5.out, by omega⟩
                case measure => simp [intOf]; omega
        · have t4 : decide ((i : Int) < (rn : Int)) = false := by simp; omega
          obtain rfl : rn = i := by omega
          have HPf : Hid (PP = (0, acc)) := by rw [← HRe.out, ← HRn.out, List.drop_length]; exact rfl
          have HSt := Lib.hid (bx_string HBx.out (by omega))
          go_wp2_with fail
          refine HSt.out.mono ?_
          rintro e w5 ⟨rfl, hb5⟩
          go_wp2_with fail
          go_ret2
          exact ⟨by rw [HPf.out]; rfl, HB1.out.trans ((HBz.out.trans hb5).mono HB1.out.size)⟩
end Go.Proofs.YtcbnelklilamgaaDoor
