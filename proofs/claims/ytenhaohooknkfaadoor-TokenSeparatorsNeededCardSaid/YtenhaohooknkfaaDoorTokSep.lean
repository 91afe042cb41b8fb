/- The walk of the law on separators: each space between joined tokens is necessary. -/
import Derived.Test.YtenhaohooknkfaaDoorTokJnL
import Derived.Test.YtenhaohooknkfaaDoorWithin
namespace Go.Proofs.YtenhaohooknkfaaDoor
open Go.RowKit Tk
/-- What is written before, and whether a separator may be due. -/
def Pre (pre : List BTok) (o : Bool) : Prop := ∀ q, joinL false (pre ++ q) = joinL false pre ++ joinL o q
theorem pre_nil : Pre [] false := fun _ => rfl
theorem pre_snoc {pre : List BTok} {o : Bool} (h : Pre pre o) (x : BTok) : Pre (pre ++ [x]) (endR x) ∧ joinL false (pre ++ [x]) = joinL false pre ++ (sepB o x ++ prTok x) := by
  have h1 : joinL false (pre ++ [x]) = joinL false pre ++ (sepB o x ++ prTok x) := by
    rw [h [x], joinL, joinL, List.append_nil]
  refine ⟨fun q => ?_, h1⟩
  rw [h1, List.append_assoc, List.singleton_append, h (x :: q), joinL]
  simp [List.append_assoc]
/-- The first byte behind a token. -/
theorem sep_byte {o : Bool} {y : BTok} {rest : List BTok} (hy : VTok y) : (sepB o y = [32] ∧ o = true ∧ startR y = true) ∨ (sepB o y = [] ∧ ∃ c r, joinL o (y :: rest) = c :: r ∧ c ≠ 32) := by
  obtain ⟨x, q, hx, hw, -, -⟩ := pr_head hy
  unfold sepB
  by_cases h : (o && startR y) = true
  · rw [if_pos h]
    simp at h
    exact .inl ⟨rfl, h⟩
  · rw [if_neg h]
    refine .inr ⟨rfl, x, q ++ joinL (endR y) rest, ?_, fun e => by rw [e] at hw; cases hw⟩
    rw [joinL, sepB, if_neg h, hx]; rfl
theorem sep_scan {pre rest : List BTok} {x y : BTok} (hv : ∀ t ∈ pre ++ x :: y :: rest, VTok t) (he : endR x = true) (hs : startR y = true) (hl : (joinL false (pre ++ [x]) ++ (prTok y ++ joinL (endR y) rest)).length ≤ 8192) :
    (∃ e, scan (joinL false (pre ++ [x]) ++ (prTok y ++ joinL (endR y) rest)) = .error e) ∨ ∃ us, scan (joinL false (pre ++ [x]) ++ (prTok y ++ joinL (endR y) rest)) = .ok us ∧ us.length < (pre ++ x :: y :: rest).length := by
  have h := scan_merge x y rest (hv x (by simp)) (hv y (by simp)) (fun t ht => hv t (by simp [ht])) he hs pre false 0 _ (fun t ht => hv t (by simp [ht])) (Nat.lt_succ_self _)
  unfold scan
  rw [if_neg (by omega)]
  rcases h with h | ⟨us, h1, h2⟩
  · exact .inl h
  · exact .inr ⟨us, h1, by simp; omega⟩
theorem scan_form2 {s : Src} {w w' : World} {e : Ending} (h : ScanPost (scan s) w e w') : ∃ v q er, e = .returned (.tuple #[v, .int .i64 q, .int .i64 er]) ∧ Below w.heap.size w w' ∧ ((er ≠ 0 ∧ ∃ x, scan s = .error x) ∨ (er = 0 ∧ ∃ us, scan s = .ok us ∧ w'.ownsRow w.heap.size 28 5 v us.length (toksC us))) := by
  obtain ⟨hb, hp⟩ := h
  cases hs : scan s with
  | error x =>
    obtain ⟨q, er⟩ := x
    rw [hs] at hp
    exact ⟨_, _, _, hp, hb, .inl ⟨scan_err hs, _, rfl⟩⟩
  | ok us =>
    rw [hs] at hp
    obtain ⟨v, he, ho⟩ := hp
    exact ⟨v, 0, 0, he, hb, .inr ⟨rfl, us, rfl, ho⟩⟩
def sepL (o : Bool) (post : List Tok) : Nat := match post with
  | [] => 0
  | y :: _ => (sepB o y.b).length
set_option maxRecDepth 100000 in
set_option maxHeartbeats 16000000 in
theorem sep_law (S : ByteArray) (which : Int) (w : World) (hS : S.size ≤ maxLen) (hT : Tab10 w) :
    Calls Tryd.prog 7 #[.string S, .int .i64 which] w fun e w' => e = .returned (.bool true) ∧ Below w.heap.size w w' := by
  have HSc := Lib.hid fun S W => Scan_any S W
  have HHs := Lib.hid fun W => head_any S 500 W hS (by omega)
  have HWi := Lib.hid fun W => within_range which 0 8 W (by omega) (by omega) (by omega)
  have hs4 : (S.extract 0 500).size ≤ 500 := by rw [← bys_len, bys_ext, List.length_take]; omega
  generalize S.extract 0 500 = S1 at *
  have HT := Lib.hid hT
  clear hT hS
  go_enter Tryd.func7, Tryd.ntmps7
  go_wp2_with fail
  refine (scans_any w).mono ?_
  rintro e w1 ⟨rfl, hb1⟩
  have HB1 := Lib.hid hb1
  clear hb1
  go_wp2_with fail
  refine (HHs.out _).mono ?_
  rintro e w1' ⟨rfl, rfl⟩
  go_wp2_with fail
  refine (HSc.out S1 w1).mono ?_
  rintro e w2 ⟨hb2, hp2⟩
  have HB2 := Lib.hid (HB1.out.trans (hb2.mono HB1.out.size))
  clear hb2
  cases hsa : scan (bys S1) with
  | error qe =>
    obtain ⟨q, er⟩ := qe
    rw [hsa] at hp2
    dsimp only at hp2
    subst hp2
    have her : (er != 0) = true := by simpa using scan_err hsa
    clear hsa
    go_wp2_with fail
    go_ret
    exact ⟨rfl, HB2.out⟩
  | ok ts =>
    rw [hsa] at hp2
    obtain ⟨v, rfl, ho⟩ := hp2
    obtain ⟨f1, f2, f3, f4⟩ := scan_facts hsa
    rw [bys_len] at f1 f2 f4
    have HJn := Lib.hid (join_any ts v _ w2 ho f3 (by omega) (HT.out.later HB2.out))
    have HO := Lib.hid ho
    have HF3 := Lib.hid f3
    obtain ⟨A, c, rfl⟩ := own_n ho
    have hJl : (joinL false (ts.map (·.b))).length ≤ 2000 := by omega
    have HPr : Hid (∀ (t : Tok), t ∈ ts → ∀ W, Below w.heap.size w W → Calls Tryd.prog 13 #[.agg #[.int .i64 t.b.kind, .int .i64 t.b.int, .string ⟨t.b.text.toArray⟩, .int .i64 (t.at_ : Int), .int .i64 (t.en : Int)]] W fun r w' => r = .returned (.tuple #[.string ⟨(prTok t.b).toArray⟩, .int .i64 0]) ∧ Below W.heap.size W w') := fun t ht W hb => print_ok t.b (f3 t.b (List.mem_map_of_mem ht)) t.at_ t.en W (HT.out.later hb)
    clear hsa ho f3 f4
    go_wp2_with fail
    refine HJn.out.mono ?_
    rintro e w3 ⟨hb3, hj⟩
    have HB3 := Lib.hid (HB2.out.trans (hb3.mono HB2.out.size))
    have HO3 := Lib.hid (own_below HO.out hb3)
    have h13 : w.heap.size ≤ w3.heap.size := HB3.out.size
    clear hb3
    rcases hj with ⟨hbig, rfl⟩ | ⟨hok, rfl⟩
    · exact absurd hbig (by omega)
    · obtain ⟨J, hJ⟩ : ∃ J, J = joinL false (ts.map (·.b)) := ⟨_, rfl⟩
      rw [← hJ] at hJl ⊢
      obtain ⟨V, hV⟩ : ∃ V : ByteArray, V = ⟨J.toArray⟩ := ⟨_, rfl⟩
      rw [← hV]
      have hbv : bys V = J := by rw [hV, int_bys]
      have hVz : V.size = J.length := by rw [← hbv, bys_len]
      have HBv := Lib.hid hbv
      have HJ := Lib.hid hJ
      have hVl : V.size ≤ 2000 := by omega
      have HVz := Lib.hid hVz
      clear hV hbv hok hJ hVz hJl
      go_wp2_with fail
      refine (HWi.out _).mono ?_
      rintro e w3' ⟨n0, hn0, hn1, rfl, rfl⟩
      go_wp2_with fail
      go_loopw [40, 9, 10] (fun v40 v9 v10 wq => True ∧ ∃ (pre post : List Tok) (o : Bool) (a : Nat) (n : Int), v40 = .int .i64 (pre.length : Int) ∧ v9 = .int .i64 (a : Int) ∧ v10 = .int .i64 n ∧ 0 ≤ n ∧ n ≤ 8 ∧ Hid (ts = pre ++ post) ∧ Hid (Pre (pre.map (·.b)) o) ∧ Hid (a = (joinL false (pre.map (·.b))).length + sepL o post) ∧ Below w.heap.size w wq ∧ Below w3.heap.size w3 wq) (fun v40 _ _ _ => ts.length - (intOf v40).toNat)
      case atStart => exact ⟨trivial, [], ts, false, 0, n0, rfl, rfl, rfl, hn0, hn1, rfl, pre_nil, by unfold Hid sepL; cases ts <;> rfl, HB3.out, Below.refl _ _⟩
      case round =>
        obtain ⟨-, pre, post, o, a, n, rfl, rfl, rfl, hna, hnb, HTs, HPre, HA, hbl, hbl3⟩ := hrel
        have HBl := Lib.hid hbl
        have hzr := hbl.size
        have ow := own_below HO3.out hbl3
        have HB3r := Lib.hid hbl3
        have HOw := Lib.hid ow
        have htl : ts.length = pre.length + post.length := by rw [HTs.out, List.length_append]
        have hple : pre.length ≤ 8192 := by omega
        clear hbl hbl3
        cases post with
        | nil =>
          have hi2 : ¬ (pre.length : Int) < (ts.length : Int) := by simp at htl; omega
          have haV : a = V.size := by
            have h1 := HPre.out []
            rw [HA.out, HVz.out, HJ.out, HTs.out]
            simp [sepL]
          have hav : ((a : Int) == (V.size : Int)) = true := by rw [haV]; simp
          clear haV htl ow
          go_wp2_with fail
          go_ret
          exact ⟨rfl, HBl.out⟩
        | cons x rest =>
          have hlt : pre.length < ts.length := by simp at htl; omega
          have hi1 : (pre.length : Int) < (ts.length : Int) := by omega
          have hi0 : (0 : Int) ≤ (pre.length : Int) := by omega
          obtain ⟨g, rfl, hg1, hg2⟩ := own_some ow (by omega)
          obtain ⟨t0, t1, t2, t3, t4⟩ := toks_cells ow pre.length hlt
          have hget : ts[pre.length] = x := by
            have : ts[pre.length]? = some x := by rw [HTs.out]; simp
            rw [List.getElem?_eq_getElem hlt] at this
            exact Option.some.inj this
          rw [hget] at t0 t1 t2 t3 t4
          have hmem : x ∈ ts := by rw [HTs.out]; simp
          have HPx := Lib.hid fun W hb => HPr.out x hmem W hb
          have hvx := HF3.out x.b (List.mem_map_of_mem hmem)
          have hpl := prTok_le hvx
          obtain ⟨hpr1, hpr2⟩ := pre_snoc HPre.out x.b
          obtain ⟨P, hP⟩ : ∃ P : ByteArray, P = ⟨(prTok x.b).toArray⟩ := ⟨_, rfl⟩
          have hPz : P.size = (prTok x.b).length := by rw [hP, int_size]
          rw [← hP] at HPx
          obtain ⟨a1, ha1⟩ : ∃ a1, a1 = a + P.size := ⟨_, rfl⟩
          have hA1 : a1 = (joinL false ((pre ++ [x]).map (·.b))).length := by
            rw [List.map_append, List.map_cons, List.map_nil, hpr2, ha1, HA.out, hPz]
            simp [sepL]; omega
          have HJs : Hid (J = joinL false ((pre ++ [x]).map (·.b)) ++ joinL (endR x.b) (rest.map (·.b))) := by
            unfold Hid
            rw [HJ.out, HTs.out, show pre ++ x :: rest = (pre ++ [x]) ++ rest by simp, List.map_append, List.map_append, List.map_cons, List.map_nil]
            exact hpr1 _
          have HTs2 : Hid (ts = (pre ++ [x]) ++ rest) := by unfold Hid; rw [HTs.out]; simp
          have HPr2 : Hid (Pre ((pre ++ [x]).map (·.b)) (endR x.b)) := by unfold Hid; rw [List.map_append]; exact hpr1
          have ha1V : a1 + (joinL (endR x.b) (rest.map (·.b))).length = V.size := by rw [HVz.out, HJs.out, List.length_append, ← hA1]
          have ha1z : a1 ≤ 2000 := by omega
          have hcast : (a : Int) + (P.size : Int) = (a1 : Int) := by omega
          have HCast := Lib.hid hcast
          have HA1 := Lib.hid hA1
          obtain ⟨⟨xk, xi, xt⟩, xa, xe⟩ := x
          dsimp only at t0 t1 t2 t3 t4 HPx
          obtain ⟨tV, htV⟩ : ∃ tV : ByteArray, tV = ⟨xt.toArray⟩ := ⟨_, rfl⟩
          rw [← htV] at t2 HPx
          have hPle : P.size ≤ 5000 := by omega
          have haz : a ≤ 2000 := by omega
          have HaV := Lib.hid ha1V
          clear hget hmem hvx hpr1 hpr2 hP hPz ha1 hA1 hcast htV ow htl ha1V
          go_upto_region 13 with (fail)
          go_wp2_with fail
          have hba := HBl.out.alloc hzr (.cells #[.int .i64 xk, .int .i64 xi, .string tV, .int .i64 (xa : Int), .int .i64 (xe : Int)] 28)
          have hro := own_below HOw.out ((Below.refl wr.heap.size wr).alloc (Nat.le_refl _) (.cells #[.int .i64 xk, .int .i64 xi, .string tV, .int .i64 (xa : Int), .int .i64 (xe : Int)] 28))
          refine (HPx.out _ hba).mono ?_
          rintro e w4 ⟨rfl, hb4⟩
          have HB4 := Lib.hid (hba.trans (hb4.mono hba.size))
          have HO4 := Lib.hid (own_below hro hb4)
          have HB34 := Lib.hid ((HB3r.out.alloc HB3r.out.size (.cells #[.int .i64 xk, .int .i64 xi, .string tV, .int .i64 (xa : Int), .int .i64 (xe : Int)] 28)).trans (hb4.mono (by have := HB3r.out.size; simp; omega)))
          clear hba hro hb4 t0 t1 t2 t3 t4
          go_upto_region 17 with (fail)
          rw [HCast.out]
          cases rest with
          | nil =>
            have htl2 : ts.length = pre.length + 1 := by rw [HTs2.out]; simp
            have hend : ((pre.length : Int) + 1 == (ts.length : Int)) = true := by rw [htl2]; simp
            have HTl := Lib.hid htl2
            clear htl2
            go_wp2_with fail
            exact ⟨⟨trivial, pre ++ [_], [], _, a1, n, by simp, rfl, rfl, hna, hnb, HTs2.out, HPr2.out, by unfold Hid; rw [HA1.out]; simp [sepL], HB4.out, HB34.out⟩, by simp [intOf]; have := HTl.out; omega⟩
          | cons y rest =>
            have hvy : VTok y.b := HF3.out y.b (List.mem_map_of_mem (by rw [HTs2.out]; simp))
            have hend : ((pre.length : Int) + 1 == (ts.length : Int)) = false := by rw [beq_eq_false_iff_ne, HTs2.out]; simp; omega
            have hlt4 : pre.length + 1 < ts.length := by rw [HTs2.out]; simp
            rcases sep_byte (o := endR ⟨xk, xi, xt⟩) (rest := rest.map (·.b)) hvy with ⟨hs1, hs2, hs3⟩ | ⟨hs1, cc, rr, hs2, hs3⟩
            · have hlta : a1 < V.size := by
                rw [← HaV.out, List.map_cons, joinL, hs1]; simp
              have hdr : (bys V).drop a1 = 32 :: (prTok y.b ++ joinL (endR y.b) (rest.map (·.b))) := by
                rw [HBv.out, HJs.out, HA1.out, List.drop_left, List.map_cons, joinL, hs1]; rfl
              have htk : (bys V).take a1 = joinL false ((pre ++ [(⟨⟨xk, xi, xt⟩, xa, xe⟩ : Tok)]).map (·.b)) := by
                rw [HBv.out, HJs.out, HA1.out, List.take_left]
              have hd2 : (bys V).drop (a1 + 1) = prTok y.b ++ joinL (endR y.b) (rest.map (·.b)) := by
                rw [← List.drop_drop, hdr]; rfl
              have hix : ∀ W, (Instr.index 9 (.string V) (.int .i64 (a1 : Int))).run Tryd.prog W = .ok (.int .u8 32) W := fun W => by
                have h2 := drop_byte V a1 hlta
                rw [hdr] at h2
                injection h2 with h2 _
                unfold Instr.index
                simp [go_sem, hlta, ← h2]
              have HSp := Lib.hid hs1
              have HLt := Lib.hid hlt4
              by_cases hn0' : n = 0
              · subst hn0'
                have hsc := sep_scan (pre := pre.map (·.b)) (x := ⟨xk, xi, xt⟩) (y := y.b) (rest := rest.map (·.b)) (by
                  have := HF3.out
                  rw [HTs2.out] at this
                  simpa using this) hs2 hs3 (by
                  have h1 : (joinL false ((pre ++ [(⟨⟨xk, xi, xt⟩, xa, xe⟩ : Tok)]).map (·.b)) ++ (prTok y.b ++ joinL (endR y.b) (rest.map (·.b)))).length ≤ V.size := by
                    rw [← htk, ← hd2, List.length_append, List.length_take, List.length_drop, bys_len]; omega
                  rw [List.map_append, List.map_cons, List.map_nil] at h1
                  exact Nat.le_trans h1 (by omega))
                have hbx : bys (V.extract 0 a1 ++ V.extract (a1 + 1) V.size) = joinL false ((pre.map (·.b)) ++ [⟨xk, xi, xt⟩]) ++ (prTok y.b ++ joinL (endR y.b) (rest.map (·.b))) := by
                  have h0 : bys (V.extract 0 a1 ++ V.extract (a1 + 1) V.size) = bys (V.extract 0 a1) ++ bys (V.extract (a1 + 1) V.size) := by unfold bys; rw [ByteArray.data_append]; simp
                  rw [h0, bys_ext, bys_ext, List.drop_zero, Nat.sub_zero, htk, List.take_of_length_le (by rw [List.length_drop, bys_len]; omega), hd2, List.map_append, List.map_cons, List.map_nil]
                rw [← hbx] at hsc
                have hlen : (pre.map (·.b) ++ (⟨xk, xi, xt⟩ : BTok) :: y.b :: rest.map (·.b)).length = ts.length := by rw [HTs2.out]; simp
                rw [hlen] at hsc
                have HSc2 := Lib.hid hsc
                have z1 : (V.extract 0 a1).size ≤ 2000 := by rw [← bys_len, bys_ext, List.length_take, List.length_drop, bys_len]; omega
                have z2 : (V.extract (a1 + 1) V.size).size ≤ 2000 := by rw [← bys_len, bys_ext, List.length_take, List.length_drop, bys_len]; omega
                have s0 : (a1 : Int) ≤ (V.size : Int) := by omega
                have s1 : (a1 : Int) + 1 ≤ (V.size : Int) := by omega
                have s2 : (0 : Int) ≤ (a1 : Int) := by omega
                have s3 : (0 : Int) ≤ (a1 : Int) + 1 := by omega
                clear hs1 hs2 hs3 hlta hvy hlt4 hdr htk hd2 hsc hbx hlen
                go_wp2_with fail
                have s4 : IntKind.i64.wrap ((a1 : Int) + 1) = (a1 : Int) + 1 := IntWalk.i64_in _ (by omega)
                have s5 : ((a1 : Int) + 1).toNat = a1 + 1 := by omega
                have s6 : ¬ 9223372036854775807 < min a1 V.size + (V.size - (a1 + 1)) := by omega
                go_region_held3 (fun w' => Below w4.heap.size w4 w')
                  (first | exact (Below.refl _ _).drew | assumption | exact (Below.refl w4.heap.size w4).drew.trans (by assumption))
                  ((go_at_call 9; refine (HSc.out _ _).mono ?_; rintro e w6 hp6; obtain ⟨v6, q6, e6, rfl, hb6, hor⟩ := scan_form2 hp6))
                have hh6 := (Below.refl w4.heap.size w4).drew.trans hb6
                have HBz : Hid (Below w.heap.size w w6) := HB4.out.trans (hh6.mono HB4.out.size)
                have hol := own_below HO4.out hh6
                rcases hor with ⟨he6, -⟩ | ⟨rfl, us, hus, hou⟩
                · have he7 : (e6 != 0) = true := by simpa using he6
                  clear hp6 hb6 hh6 hol he6 s4 s5
                  go_wp2_with fail
                  go_ret
                  exact ⟨rfl, HBz.out⟩
                · have hul : us.length < ts.length := by
                    rcases HSc2.out with ⟨e, h⟩ | ⟨us2, h, h2⟩
                    · rw [hus] at h; cases h
                    · rw [hus] at h; cases h; exact h2
                  have HSm := Lib.hid (same_not _ _ ts us _ _ w6 hol hou (by omega))
                  clear hp6 hb6 hh6 hol hus hou hul s4 s5
                  go_wp2_with fail
                  refine HSm.out.mono ?_
                  rintro e w7 ⟨rfl, hb7⟩
                  have HBy := Lib.hid (HBz.out.trans (hb7.mono HBz.out.size))
                  clear hb7
                  go_wp2_with fail
                  go_ret
                  exact ⟨rfl, HBy.out⟩
              · have hn1' : ¬ n - 1 < 0 := by omega
                have hn2' : 0 ≤ n - 1 := by omega
                clear hs1 hs2 hs3 hlta hvy hlt4 hdr htk hd2 hn0'
                go_wp2_with fail
                exact ⟨⟨trivial, pre ++ [_], y :: rest, _, a1 + 1, n - 1, by simp, rfl, rfl, hn2', by omega, HTs2.out, HPr2.out, by unfold Hid; rw [HA1.out]; simp only [sepL]; rw [HSp.out]; rfl, HB4.out, HB34.out⟩, by simp [intOf]; have := HLt.out; omega⟩
            · have hlta : a1 < V.size := by
                rw [← HaV.out, List.map_cons, hs2]; simp
              have hix : ∀ W, (Instr.index 9 (.string V) (.int .i64 (a1 : Int))).run Tryd.prog W = .ok (.int .u8 (bt cc)) W := fun W => by
                have h1 : (bys V).drop a1 = cc :: rr := by rw [HBv.out, HJs.out, HA1.out, List.drop_left, List.map_cons, hs2]
                have h2 := drop_byte V a1 hlta
                rw [h1] at h2
                injection h2 with h2 _
                unfold Instr.index
                simp [go_sem, hlta, bt, h2]
              have hne : (bt cc != 32) = true := by rw [bne_iff_ne]; exact fun e => hs3 (bt_inj (e.trans rfl))
              have HSp := Lib.hid hs1
              have HLt := Lib.hid hlt4
              clear hs1 hs2 hs3 hlta hvy hlt4
              go_wp2_with fail
              exact ⟨⟨trivial, pre ++ [_], y :: rest, _, a1, n, by simp, rfl, rfl, hna, hnb, HTs2.out, HPr2.out, by unfold Hid; rw [HA1.out]; simp only [sepL]; rw [HSp.out]; rfl, HB4.out, HB34.out⟩, by simp [intOf]; have := HLt.out; omega⟩
end Go.Proofs.YtenhaohooknkfaaDoor
