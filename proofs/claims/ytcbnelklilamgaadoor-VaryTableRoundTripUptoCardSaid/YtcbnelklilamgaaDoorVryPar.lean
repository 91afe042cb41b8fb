/- The walk of Parse at what Print writes. -/
import Derived.Test.YtcbnelklilamgaaDoorVryPs
namespace Go.Proofs.YtcbnelklilamgaaDoor
open Go.RowKit Vr
theorem eRw : ElemT Tryd.prog 23 22 (.slice none 0 0) 24 := ElemT.mk_ Tryd.underlying23 (by kernel_rfl) rfl
theorem body_drop (rows : List (List Src)) (i : Nat) (h : i < rows.length) : bodyT (rows.drop i) = jn ((rows.getD i []).map quo) ++ 10 :: bodyT (rows.drop (i + 1)) := by
  rw [List.drop_eq_getElem_cons h, List.getD_eq_getElem?_getD, List.getElem?_eq_getElem h]
  show rowT rows[i] ++ bodyT (rows.drop (i + 1)) = _
  unfold rowT
  rw [List.append_assoc]
  rfl
theorem body_len (rows : List (List Src)) (i : Nat) : (bodyT (rows.drop i)).length ≤ (bodyT rows).length := by
  have e : bodyT rows = bodyT (rows.take i) ++ bodyT (rows.drop i) := by unfold bodyT; rw [← List.flatMap_append, List.take_append_drop]
  rw [e, List.length_append]; omega
/-- A row that is written is read, whatever stands behind it. -/
theorem line_body (rows : List (List Src)) (hne : ∀ r ∈ rows, r ≠ []) (i : Nat) (h : i < rows.length) : lineP ((bodyT (rows.drop i)).length + 1) (bodyT (rows.drop i)) = some (rows.getD i [], bodyT (rows.drop (i + 1))) := by
  have e := body_drop rows i h
  have hr : rows.getD i [] ≠ [] := by
    rw [List.getD_eq_getElem?_getD, List.getElem?_eq_getElem h]
    exact hne _ (List.getElem_mem h)
  have hl : (rows.getD i []).length ≤ (bodyT (rows.drop i)).length + 1 := by
    have := jn_len ((rows.getD i []).map quo) (fun _ _ => .inr trivial)
    rw [e]
    simp only [List.length_map, List.length_append, List.length_cons] at *
    omega
  have h1 := line_row quo (rows.getD i []) (bodyT (rows.drop (i + 1))) hr (fun v _ e t he => value_quo v e he t) _ hl
  rw [← e] at h1
  exact h1
theorem body_ne (rows : List (List Src)) (i : Nat) (h : i < rows.length) : bodyT (rows.drop i) ≠ [] := by
  rw [body_drop rows i h]; simp
set_option maxRecDepth 100000 in
set_option maxHeartbeats 16000000 in
theorem parse_any (f : List Src) (rows : List (List Src)) (s : Src) (w : World) (hs : s.length ≤ 8192) (hne : s ≠ []) (hline : lineP (s.length + 1) s = some (f, bodyT rows)) (hbl : (bodyT rows).length ≤ 8192) (hrn : ∀ r ∈ rows, r ≠ []) (hr256 : rows.length ≤ 256) (hp : (printP f rows).1 = 0)
    (hfs : ∀ s ∈ f, s.length < 4294967281) (hrs : ∀ r ∈ rows, ∀ s ∈ r, s.length < 4294967281) (hM : Mx w) :
    Calls Tryd.prog 9 #[.string (Bs s)] w fun e w' => ∃ fv rv, e = .returned (.tuple #[.agg #[fv, rv], .int .i64 0]) ∧ StM (fun _ => True) w' fv f ∧ RwM (fun _ => True) w' rv rows ∧ Below w.heap.size w w' := by
  have hz := bs_size s
  have HLine0 : Hid (∀ W, Calls Tryd.prog 26 #[.string (Bs s)] W fun e w' => (∃ (A : Option Addr) (c : Nat), e = .returned (.tuple #[.slice A f.length c, .string (Bs (bodyT rows)), .bool true]) ∧ w'.ownsRow W.heap.size 9 1 (.slice A f.length c) f.length (scells f)) ∧ Below W.heap.size W w') := fun W =>
    (line_any s W hs).mono fun e w' ⟨h1, h2⟩ => ⟨h1.2 _ _ hline, h2⟩
  have HLineI : Hid (∀ i, i < rows.length → ∀ W, Calls Tryd.prog 26 #[.string (Bs (bodyT (rows.drop i)))] W fun e w' => (∃ (A : Option Addr) (c : Nat), e = .returned (.tuple #[.slice A (rows.getD i []).length c, .string (Bs (bodyT (rows.drop (i + 1)))), .bool true]) ∧ w'.ownsRow W.heap.size 9 1 (.slice A (rows.getD i []).length c) (rows.getD i []).length (scells (rows.getD i []))) ∧ Below W.heap.size W w') := fun i hi W =>
    (line_any (bodyT (rows.drop i)) W (Nat.le_trans (body_len rows i) hbl)).mono fun e w' ⟨h1, h2⟩ => ⟨h1.2 _ _ (line_body rows hrn i hi), h2⟩
  have HNe : Hid (∀ i, i < rows.length → (Bs (bodyT (rows.drop i))).toList.isEmpty = false) := fun i hi => by
    rw [Lib.toList_data, bs_list]
    have := body_ne rows i hi
    cases h : bodyT (rows.drop i) with
    | nil => exact absurd h this
    | cons _ _ => rfl
  have HSe : Hid ((Bs s).toList.isEmpty = false) := by
    rw [Lib.toList_data, bs_list]
    cases h : s with
    | nil => exact absurd h hne
    | cons _ _ => rfl
  have HBl : Hid (∀ i, i < rows.length → (bodyT (rows.drop (i + 1))).length < (bodyT (rows.drop i)).length) := fun i hi => by
    rw [body_drop rows i hi, List.length_append, List.length_cons]; omega
  have HEnd : Hid (bodyT (rows.drop rows.length) = []) := by rw [List.drop_length]; exact rfl
  have HChk : Hid (∀ W (fv rv : Value), Below w.heap.size w W → StM (fun _ => True) W fv f → RwM (fun _ => True) W rv rows → Calls Tryd.prog 8 #[.agg #[fv, rv]] W fun e w' => e = .returned (.int .i64 0) ∧ Below W.heap.size W w') := fun W fv rv hW h1 h2 => by
    have h := check_any f rows fv rv _ _ W h1 h2 hfs hrs (hM.later hW)
    rw [hp] at h
    exact h
  have t0 : decide ((8192 : Int) < ((Bs s).size : Int)) = false := decide_eq_false (by omega)
  clear hline hbl hrn hp hfs hrs hM hz hne hs
  generalize Bs s = S at *
  have b1 := (Below.refl w.heap.size w).alloc (Nat.le_refl _) (.cells #[.slice none 0 0, .slice none 0 0] 25)
  have b2 := b1.alloc (by simp) (.cells #[.slice none 0 0, .slice none 0 0] 25)
  have k1 := (Blk.new w 25 #[.slice none 0 0, .slice none 0 0]).alloc (.cells #[.slice none 0 0, .slice none 0 0] 25)
  have k2 := Blk.new (w.alloc (.cells #[.slice none 0 0, .slice none 0 0] 25)) 25 #[.slice none 0 0, .slice none 0 0]
  rw [show (w.alloc (.cells #[.slice none 0 0, .slice none 0 0] 25)).heap.size = w.heap.size + 1 by simp] at k2
  have HB := Lib.hid b2
  have HK1 := Lib.hid k1
  have HK2 := Lib.hid k2
  have hsz : ((w.alloc (.cells #[.slice none 0 0, .slice none 0 0] 25)).alloc (.cells #[.slice none 0 0, .slice none 0 0] 25)).heap.size = w.heap.size + 2 := by simp
  clear b1 b2 k1 k2
  go_enter Tryd.func9, Tryd.ntmps9
  go_wp2_with fail
  generalize (w.alloc (.cells #[.slice none 0 0, .slice none 0 0] 25)).alloc (.cells #[.slice none 0 0, .slice none 0 0] 25) = w2 at *
  go_loopw [0, 5, 6, 7, 8] (fun v0 v5 _ _ _ wz => True ∧ ((v0 = .string S ∧ v5 = .bool true ∧ wz = w2) ∨ ∃ (i : Nat) (A Af : Option Addr) (c cf : Nat), i ≤ rows.length ∧ v0 = .string (Bs (bodyT (rows.drop i))) ∧ v5 = .bool false ∧ Blk wz (w.heap.size + 1) 25 #[.slice Af f.length cf, .slice A i c] ∧ Blk wz w.heap.size 25 #[.slice none 0 0, .slice none 0 0] ∧ wz.ownsRow (w.heap.size + 2) 9 1 (.slice Af f.length cf) f.length (scells f) ∧ RwO (w.heap.size + 2) wz (.slice A i c) (rows.take i) ∧ Below w.heap.size w wz ∧ w.heap.size + 2 ≤ wz.heap.size)) (fun v0 v5 _ _ _ _ => strSz v0 + match v5 with | .bool true => (bodyT rows).length + 1 | _ => 0)
  case atStart => exact ⟨trivial, .inl ⟨rfl, rfl, rfl⟩⟩
  case round =>
    obtain ⟨-, h⟩ := hrel
    rcases h with ⟨rfl, rfl, rfl⟩ | ⟨i, A, Af, c, cf, hi, rfl, rfl, hT, hR, hof, hrw, hb, hsz2⟩
    · have hse := HSe.out
      have HL := Lib.hid (HLine0.out wr)
      go_wp2_with fail
      refine HL.out.mono ?_
      rintro e w3 ⟨⟨A, c, rfl, hown⟩, hb3⟩
      have HO := Lib.hid hown
      have HB3 := Lib.hid (HB.out.trans (hb3.mono (by omega)))
      have HT3 := Lib.hid (HK2.out.below hb3 HK2.out.lt)
      have HR3 := Lib.hid (HK1.out.below hb3 HK1.out.lt)
      have hs3 := hb3.size
      clear hown hb3
      have x0 : w3.cell? ⟨w.heap.size + 1, 0, none⟩ = some (.slice none 0 0) := by simpa using HT3.out.cell 0
      have xl := HT3.out.lt
      have xf := HT3.out.frozen 0
      go_wp2_with fail
      refine ⟨⟨trivial, .inr ⟨0, none, A, 0, c, by omega, rfl, rfl, by simpa using HT3.out.put 0 (.slice A f.length c), HR3.out.far (by simp) _, own_set (own_base HO.out (by omega)) (own_not HT3.out (by decide) HO.out), RwO.nil _ _, HB3.out.setCell (p := ⟨w.heap.size + 1, 0, none⟩) (by simp) _, by simp [World.setCell]; omega⟩⟩, ?_⟩
      show (Bs (bodyT rows)).size + 0 < S.size + ((bodyT rows).length + 1)
      rw [bs_size]
      omega
    · have HT := Lib.hid hT
      have HR := Lib.hid hR
      have HOf := Lib.hid hof
      have HRw := Lib.hid hrw
      have HBz := Lib.hid hb
      clear hT hR hof hrw hb
      have hrl : (rows.take i).length = i := by rw [List.length_take]; omega
      by_cases hlt : i < rows.length
      · have hse := HNe.out i hlt
        have HL := Lib.hid (HLineI.out i hlt wr)
        have HBi := Lib.hid (HBl.out i hlt)
        have htk : Hid (rows.take (i + 1) = rows.take i ++ [rows.getD i []]) := by
          rw [List.take_add_one, List.getD_eq_getElem?_getD, List.getElem?_eq_getElem hlt]; exact rfl
        generalize rows.getD i [] = r at *
        generalize hb0 : bodyT (rows.drop i) = cur at *
        generalize hb1 : bodyT (rows.drop (i + 1)) = nxt at *
        have HCu := Lib.hid hb0
        have HNx := Lib.hid hb1
        have HCs := Lib.hid (bs_size cur)
        clear hb0 hb1
        generalize Bs cur = CU at *
        go_wp2_with fail
        refine HL.out.mono ?_
        rintro e w3 ⟨⟨A2, c2, rfl, hown⟩, hb3⟩
        have HO := Lib.hid (own_base hown hsz2)
        have HB3 := Lib.hid (HBz.out.trans (hb3.mono HBz.out.size))
        have HT3 := Lib.hid (HT.out.below hb3 HT.out.lt)
        have HR3 := Lib.hid (HR.out.below hb3 HR.out.lt)
        have HOf3 := Lib.hid (own_below HOf.out hb3)
        have HRw3 := Lib.hid (HRw.out.later hb3)
        have hs3 := hb3.size
        clear hown hb3 HT HR HOf HRw HBz
        obtain ⟨vs, hvs0, -⟩ := HRw3.out
        rw [hrl] at hvs0
        have HVs := Lib.hid hvs0
        clear hvs0
        have x1 : w3.cell? ⟨w.heap.size + 1, 1, none⟩ = some (.slice A i c) := by simpa using HT3.out.cell 1
        have xl := HT3.out.lt
        generalize hrm : r.length = m at *
        have HRm := Lib.hid hrm
        clear hrm
        have hal := (Below.refl w3.heap.size w3).alloc (Nat.le_refl _) (.cells #[.slice A2 m c2] 22)
        have HVs2 := Lib.hid (own_below HVs.out hal)
        have HO2 := Lib.hid (own_below HO.out hal)
        have HRw4 := Lib.hid (HRw3.out.later hal)
        have HOf4 := Lib.hid (own_below HOf3.out hal)
        have HT4 := Lib.hid (HT3.out.alloc (.cells #[.slice A2 m c2] 22))
        have HR4 := Lib.hid (HR3.out.alloc (.cells #[.slice A2 m c2] 22))
        have HB4 := Lib.hid (HB3.out.alloc (by omega) (.cells #[.slice A2 m c2] 22))
        have hs4 : (w3.alloc (.cells #[.slice A2 m c2] 22)).heap.size = w3.heap.size + 1 := by simp
        clear hal
        go_wp2_with (at_builtin; go_must (refine wpList_push eRw rfl (.tmp 33) (.tmp 35) rfl (w.heap.size + 2) (.slice A i c) i _ rfl HVs2.out ⟨w3.heap.size, 0, none⟩ 1 (.slice A2 m c2) rfl (new_one _ _ _) rfl (by omega) (by omega) (by first | omega | (rw [hs4]; omega)) ?_); go_must (intro v' w11 hown11 hgr11 hk11; have HO11 := Lib.hid hown11; have HGr11 := Lib.hid hgr11; have HT11 := Lib.hid (HT4.out.grown hgr11 (Ne.symm (own_not HT4.out (by decide) HVs2.out))); have y1 : w11.cell? ⟨w.heap.size + 1, 1, none⟩ = some (.slice A i c) := (HT11.out.cell 1).trans rfl; have yf := HT11.out.frozen 1; have yl := HT11.out.lt; obtain ⟨A11, c11, rfl⟩ := own_form hown11; clear hown11 hgr11 hk11))
        have hr2 : (w3.alloc (.cells #[.slice A2 m c2] 22)).ownsRow (w.heap.size + 2) 9 1 (.slice A2 r.length c2) r.length (scells r) := by rw [HRm.out]; exact HO2.out
        have ho2 : w11.ownsRow (w.heap.size + 2) 22 1 (.slice A11 (i + 1) c11) (i + 1) (vs ++ [.slice A2 r.length c2]) := by rw [HRm.out]; exact HO11.out
        have hof2 := own_other HOf4.out HGr11.out (own_types HOf4.out HVs2.out (by decide))
        have hrw2 := RwO.push HRw4.out hr2 hrl.symm HVs2.out ho2 HGr11.out
        rw [← htk.out] at hrw2
        have hg11 := HGr11.out.size
        refine ⟨⟨trivial, .inr ⟨i + 1, A11, Af, c11, cf, by omega, by rw [HNx.out], rfl, by simpa using HT11.out.put 1 (.slice A11 (i + 1) c11), (HR4.out.grown HGr11.out (Ne.symm (own_not HR4.out (by decide) HVs2.out))).far (by simp) _, own_set hof2 (own_not HT11.out (by decide) hof2), hrw2.set HT11.out (by decide) (by decide), (HB4.out.grown HGr11.out (by omega) (fun k hk => by have := (own_lt HVs2.out k hk).1; omega)).setCell (p := ⟨w.heap.size + 1, 1, none⟩) (by simp) _, by simp [World.setCell]; omega⟩⟩, ?_⟩
        show (Bs nxt).size + 0 < CU.size + 0
        have h1 := HBi.out
        have h2 := HCs.out
        rw [bs_size]
        omega
      · obtain rfl : i = rows.length := by omega
        have hse : (Bs (bodyT (rows.drop rows.length))).toList.isEmpty = true := by rw [Lib.toList_data, bs_list, HEnd.out]; rfl
        have hrw := HRw.out.rw
        rw [List.take_length] at hrw
        have hof : StM (fun _ => True) wr (.slice Af f.length cf) f := (SlM.of_own HOf.out).mono fun _ _ _ => trivial
        have HCk := Lib.hid (HChk.out wr _ _ HBz.out hof hrw)
        have HSt := Lib.hid hof
        have HRt := Lib.hid hrw
        have x0 : wr.cell? ⟨w.heap.size + 1, 0, none⟩ = some (.slice Af f.length cf) := (HT.out.cell 0).trans rfl
        have x1 : wr.cell? ⟨w.heap.size + 1, 1, none⟩ = some (.slice A rows.length c) := (HT.out.cell 1).trans rfl
        have xl := HT.out.lt
        clear hrw hof
        generalize Bs (bodyT (rows.drop rows.length)) = CU at *
        go_wp2_with fail
        refine HCk.out.mono ?_
        rintro e w5 ⟨rfl, hb5⟩
        have HT5 := Lib.hid (HT.out.below hb5 HT.out.lt)
        have HR5 := Lib.hid (HR.out.below hb5 HR.out.lt)
        have HB5 := Lib.hid (HBz.out.trans (hb5.mono HBz.out.size))
        have HOf5 := Lib.hid (own_below HOf.out hb5)
        have HRw5 := Lib.hid (HRw.out.later hb5)
        have y0 : w5.cell? ⟨w.heap.size + 1, 0, none⟩ = some (.slice Af f.length cf) := (HT5.out.cell 0).trans rfl
        have y1 : w5.cell? ⟨w.heap.size + 1, 1, none⟩ = some (.slice A rows.length c) := (HT5.out.cell 1).trans rfl
        have yl := HT5.out.lt
        have z0 : w5.cell? ⟨w.heap.size, 0, none⟩ = some (.slice none 0 0) := (HR5.out.cell 0).trans rfl
        have z1 : w5.cell? ⟨w.heap.size, 1, none⟩ = some (.slice none 0 0) := (HR5.out.cell 1).trans rfl
        have zl := HR5.out.lt
        have zf0 := HR5.out.frozen 0
        have zf1 := HR5.out.frozen 1
        clear hb5 x0 x1 xl
        go_wp2_with fail
        have r1 := HR5.out.put 0 (.slice Af f.length cf)
        have r2 := r1.put 1 (.slice A rows.length c)
        have c0 : ((w5.setCell ⟨w.heap.size, 0, none⟩ (.slice Af f.length cf)).setCell ⟨w.heap.size, 1, none⟩ (.slice A rows.length c)).cell? ⟨w.heap.size, 0, none⟩ = some (.slice Af f.length cf) := by simpa using r2.cell 0
        have c1 : ((w5.setCell ⟨w.heap.size, 0, none⟩ (.slice Af f.length cf)).setCell ⟨w.heap.size, 1, none⟩ (.slice A rows.length c)).cell? ⟨w.heap.size, 1, none⟩ = some (.slice A rows.length c) := by simpa using r2.cell 1
        have o1 := own_set (i := 0) (u := .slice Af f.length cf) HOf5.out (own_not HR5.out (by decide) HOf5.out)
        have o2 := own_set (i := 1) (u := .slice A rows.length c) o1 (own_not r1 (by decide) o1)
        have p1 := (HRw5.out.set (i := 0) (u := .slice Af f.length cf) HR5.out (by decide) (by decide)).set (i := 1) (u := .slice A rows.length c) r1 (by decide) (by decide)
        have p2 := p1.rw
        rw [List.take_length] at p2
        refine bodyPost_ret (v := .tuple #[.agg #[.slice Af f.length cf, .slice A rows.length c], .int .i64 0]) (by simp [results, Tryd.results9, go_sem, c0, c1]) rfl ?_
        exact ⟨_, _, rfl, (SlM.of_own o2).mono fun _ _ _ => trivial, p2, (HB5.out.setCell (p := ⟨w.heap.size, 0, none⟩) (Nat.le_refl _) _).setCell (p := ⟨w.heap.size, 1, none⟩) (Nat.le_refl _) _⟩
end Go.Proofs.YtcbnelklilamgaaDoor
