/- The walk of Join, for tokens that Print writes. The walks of Print and Check. -/
import Derived.Test.YthbdhijkdldmoaaGreatDoorTokPri
import Derived.Test.YthbdhijkdldmoaaGreatDoorObjNest
namespace Go.Proofs.YthbdhijkdldmoaaGreatDoor
open Go.RowKit Tk
def JoinPost (J : Tk.Src) (w : World) (e : Ending) (w' : World) : Prop :=
  Below w.heap.size w w' ∧ ((8192 < J.length ∧ e = .returned (.tuple #[.string ⟨#[]⟩, .int .i64 2])) ∨ (J.length ≤ 8192 ∧ e = .returned (.tuple #[.string ⟨J.toArray⟩, .int .i64 0])))
theorem prTok_le {t : BTok} (h : VTok t) : (prTok t).length ≤ 5000 := by
  cases h with
  | int n h1 h2 =>
    have := (integer_ok (int_itoa n h1 h2)).2.2.1
    show (Lib.itoa n).length ≤ 5000
    rcases Int.le_total 0 n with h | h
    · obtain ⟨m, rfl⟩ := Int.eq_ofNat_of_zero_le h
      rw [itoa_nat]
      have := dec_len 9 m (by omega); omega
    · unfold Lib.itoa
      split
      · have := dec_len 9 (n.natAbs) (by omega)
        simp only [List.length_cons]; omega
      · have := dec_len 9 n.toNat (by omega)
        omega
  | name s h0 h1 h2 => show (47 :: prName s).length ≤ 5000; rw [List.length_cons]; have := prName_le s; omega
  | text s h => show (prText s).length ≤ 5000; have := prText_le s; omega
  | ref n h1 h2 =>
    show (64 :: Lib.itoa (n : Int)).length ≤ 5000
    rw [List.length_cons, itoa_nat]
    have := dec_len 3 n (by omega); omega
  | word s h =>
    show s.length ≤ 5000
    obtain ⟨_, x, r, _, hl, _⟩ := word_ok h
    omega
  | list => decide
  | listEnd => decide
  | dict => decide
  | dictEnd => decide
set_option maxRecDepth 100000 in
set_option maxHeartbeats 16000000 in
theorem join_any (ts : List Tok) (v : Value) (base : Nat) (w : World) (ho : w.ownsRow base 53 5 v ts.length (toksC ts)) (hv : ∀ t ∈ ts.map (·.b), VTok t) (hn : ts.length ≤ 20000) (hT : Tab10 w) :
    Calls Tryz.prog 21 #[v] w (JoinPost (joinL false (ts.map (·.b))) w) := by
  have hb1 := (Below.refl w.heap.size w).alloc (Nat.le_refl _) (.cells #[.pointer none, .slice none 0 0] 77)
  have hk1 : Pk (w.heap.size + 1) w.heap.size [] (w.alloc (.cells #[.pointer none, .slice none 0 0] 77)) := pk_fresh (Blk.new w _ _)
  have hs1 : w.heap.size + 1 ≤ (w.alloc (.cells #[.pointer none, .slice none 0 0] 77)).heap.size := by simp
  have HWB : Hid (∀ (W : World) (acc : Tk.Src) (v : Int) (c : UInt8), v = bt c → Pk (w.heap.size + 1) w.heap.size acc W → Below w.heap.size w W → w.heap.size + 1 ≤ W.heap.size → acc.length ≤ 1000000 → Calls Tryz.prog 43 #[.pointer (some ⟨w.heap.size, 0, none⟩), .int .u8 v] W fun e w' => e = .returned .nilIface ∧ Pk (w.heap.size + 1) w.heap.size (acc ++ [c]) w' ∧ Below w.heap.size w w' ∧ w.heap.size + 1 ≤ w'.heap.size) := fun W acc v c hv hp hb hz ha =>
    (pk_byte hp c v hv (by omega) hz).mono fun e w' h => ⟨h.1, h.2.1, hb.trans ((FrS.of_x (S := fun k => k = w.heap.size) h.2.2.1 rfl).below (by omega) fun k e => by omega), by have := h.2.2.1.size; omega⟩
  have HWS : Hid (∀ (W : World) (acc : Tk.Src) (t : ByteArray) (m : Tk.Src), t.data.toList = m → m ≠ [] → Pk (w.heap.size + 1) w.heap.size acc W → Below w.heap.size w W → w.heap.size + 1 ≤ W.heap.size → acc.length ≤ 1000000 → m.length ≤ 5000 → Calls Tryz.prog 44 #[.pointer (some ⟨w.heap.size, 0, none⟩), .string t] W fun e w' => ∃ v, e = .returned v ∧ Pk (w.heap.size + 1) w.heap.size (acc ++ m) w' ∧ Below w.heap.size w w' ∧ w.heap.size + 1 ≤ w'.heap.size) := fun W acc t m hm hm0 hp hb hz ha hml =>
    (pk_write hp t (by have : t.size = m.length := by rw [← hm, Array.length_toList]; rfl
                       omega) hz (by rw [hm]; simp [hm0])).mono fun e w' h => ⟨_, h.1, by have := h.2.1; rw [hm] at this; exact this, hb.trans ((FrS.of_x (S := fun k => k = w.heap.size) h.2.2.1 rfl).below (by omega) fun k e => by omega), by have := h.2.2.1.size; omega⟩
  have HB1 := Lib.hid hb1
  have HK1 := Lib.hid hk1
  have HTa : Hid (∀ W, Below w.heap.size w W → Tab10 W) := fun W hb => Tab10.later hT hb
  have HO : Hid (∀ W, Below w.heap.size w W → W.ownsRow base 53 5 v ts.length (toksC ts)) := fun W hb => own_below ho hb
  have HPr : Hid (∀ (t : Tok), t ∈ ts → ∀ W, Below w.heap.size w W → Calls Tryz.prog 41 #[.agg #[.int .i64 t.b.kind, .int .i64 t.b.int, .string ⟨t.b.text.toArray⟩, .int .i64 (t.at_ : Int), .int .i64 (t.en : Int)]] W fun r w' => r = .returned (.tuple #[.string ⟨(prTok t.b).toArray⟩, .int .i64 0]) ∧ Below W.heap.size W w') := fun t ht W hb => print_ok t.b (hv t.b (List.mem_map_of_mem ht)) t.at_ t.en W (Tab10.later hT hb)
  have HVt : Hid (∀ t ∈ ts, VTok t.b) := fun t ht => hv t.b (List.mem_map_of_mem ht)
  have HJ : Hid (joinL false (ts.map (·.b)) = [] ++ joinL false ((ts.drop 0).map (·.b))) := by unfold Hid; rw [List.drop_zero]; rfl
  have HGe : Hid (∀ i (h : i < ts.length), ts.drop i = ts[i] :: ts.drop (i + 1)) := fun i h => List.drop_eq_getElem_cons h
  generalize joinL false (ts.map (·.b)) = J at *
  obtain ⟨A, c, rfl⟩ := own_n ho
  clear hb1 hk1 hv ho hT
  go_enter Tryz.func21, Tryz.ntmps21
  go_wp2_with fail
  generalize w.alloc (.cells #[.pointer none, .slice none 0 0] 77) = w1 at *
  go_loopw [12, 5] (fun v12 v5 wq => True ∧ ∃ (i : Nat) (o : Bool) (acc : Tk.Src), v12 = .int .i64 i ∧ v5 = .bool o ∧ i ≤ ts.length ∧ J = acc ++ joinL o ((ts.drop i).map (·.b)) ∧ acc.length ≤ 8192 ∧ Pk (w.heap.size + 1) w.heap.size acc wq ∧ Below w.heap.size w wq ∧ w.heap.size + 1 ≤ wq.heap.size) (fun v12 _ _ => ts.length - (intOf v12).toNat)
  case atStart => exact ⟨trivial, 0, false, [], rfl, rfl, Nat.zero_le _, HJ.out, by simp, HK1.out, HB1.out, hs1⟩
  case round =>
    obtain ⟨-, i, o, acc, rfl, rfl, hi, hj, hal, hpk, hbl, hsz⟩ := hrel
    have HPk := Lib.hid hpk
    have HBl := Lib.hid hbl
    have HJi := Lib.hid hj
    clear hpk hj
    by_cases hlt : i < ts.length
    · have hi1 : (i : Int) < (ts.length : Int) := by omega
      have hi0 : (0 : Int) ≤ (i : Int) := by omega
      have ow := HO.out wr hbl
      obtain ⟨g, rfl, hg1, hg2⟩ := own_some ow (by omega)
      obtain ⟨t0, t1, t2, t3, t4⟩ := toks_cells ow i hlt
      have HGi := Lib.hid (HGe.out i hlt)
      have hmem : ts[i] ∈ ts := List.getElem_mem hlt
      have HPi := Lib.hid fun W hb => HPr.out ts[i] hmem W hb
      have hvt := HVt.out ts[i] hmem
      have hzr := hbl.size
      rw [HGi.out] at HJi
      clear hmem ow hbl
      generalize ts[i] = tt at *
      obtain ⟨b, at_, en⟩ := tt
      dsimp only at t0 t1 t2 t3 t4 HPi hvt
      obtain ⟨x0, q0, hx0, -, -, hx1⟩ := pr_head hvt
      obtain ⟨q2, y0, hy0, hy1⟩ := pr_last hvt
      have hple := prTok_le hvt
      have HJ2 : Hid (J = acc ++ (sepB o b ++ (prTok b ++ joinL (endR b) ((ts.drop (i + 1)).map (·.b))))) := HJi.out
      obtain ⟨V, hV⟩ : ∃ V : ByteArray, V = ⟨(prTok b).toArray⟩ := ⟨_, rfl⟩
      have hVs : V.size = (prTok b).length := by rw [hV, int_size]
      have hVp : 0 < V.size := by rw [hVs, hx0]; simp
      have hV0 : V[0]'hVp = x0 := by
        have := drop_byte V 0 hVp
        rw [List.drop_zero, show bys V = prTok b by rw [hV, int_bys], hx0] at this
        injection this with h1 _
        exact h1.symm
      have hVl : V[V.size - 1]'(by omega) = y0 := by
        have h1 : (bys V)[V.size - 1]? = some (V[V.size - 1]'(by omega)) := by
          have := drop_byte V (V.size - 1) (by omega)
          have h2 := congrArg (fun l => l[0]?) this
          simpa using h2
        have h3 : (prTok b)[(prTok b).length - 1]? = some y0 := by rw [hy0]; simp
        have h4 : (bys V)[V.size - 1]? = some y0 := by rw [hVs, show bys V = prTok b by rw [hV, int_bys]]; exact h3
        rw [h1] at h4
        exact Option.some.inj h4
      have HVd : Hid (V.data.toList = prTok b) := by unfold Hid; rw [hV]
      have hix : ∀ W, (Instr.index 9 (.string V) (.int .i64 ((V.size : Int) - 1))).run Tryz.prog W = .ok (.int .u8 (bt y0)) W := fun W => by
        rw [← hVl, show ((V.size : Int) - 1) = ((V.size - 1 : Nat) : Int) by omega]
        unfold Instr.index
        have h0 : V.size - 1 < V.size := by omega
        simp [go_sem, h0, bt]
      rw [← hV] at HPi
      have HRx := Lib.hid fun W => regular_any (V[0]'hVp) W
      have HRy := Lib.hid fun W => regular_any y0 W
      rw [hV0, hx1, ← hV0] at HRx
      rw [hy1] at HRy
      have hVi : (0 : Int) < (V.size : Int) := by omega
      have hVle : V.size ≤ 5000 := by omega
      have HVs := Lib.hid hVs
      have hne : (prTok b) ≠ [] := by rw [hx0]; simp
      have HNe := Lib.hid hne
      obtain ⟨tV, htV⟩ : ∃ tV : ByteArray, tV = ⟨b.text.toArray⟩ := ⟨_, rfl⟩
      rw [← htV] at t2 HPi
      clear hx0 hx1 hy0 hy1 hV0 hVl hV hVs htV hne hvt
      go_upto_region 6 with (fail)
      go_wp2_with fail
      have hba := HBl.out.alloc HBl.out.size (.cells #[.int .i64 b.kind, .int .i64 b.int, .string tV, .int .i64 (at_ : Int), .int .i64 (en : Int)] 53)
      refine (HPi.out _ hba).mono ?_
      rintro e w3 ⟨rfl, hb3⟩
      have HB3 := Lib.hid (hba.trans (hb3.mono hba.size))
      have HK3 := Lib.hid (pk_below (pk_below HPk.out ((Below.refl _ _).alloc (Nat.le_refl _) _)) hb3)
      have hz3 : w.heap.size + 1 ≤ w3.heap.size := by have := hb3.size; simp at this; omega
      clear hba hb3 t0 t1 t2 t3 t4
      cases o
      · have HSp : Hid (sepB false b = []) := rfl
        go_wp2_with fail
        refine (HWS.out _ _ V (prTok b) HVd.out HNe.out HK3.out HB3.out hz3 (by omega) hple).mono ?_
        rintro e w5 ⟨v5, rfl, hk5, hb5, hz5⟩
        have HK5 := Lib.hid hk5
        have HB5 := Lib.hid hb5
        clear hk5 hb5
        have HLen := Lib.hid (pk_len HK5.out)
        have HJ3 : Hid (J = (acc ++ prTok b) ++ joinL (endR b) ((ts.drop (i + 1)).map (·.b))) := by unfold Hid; rw [HJ2.out, HSp.out]; simp
        obtain ⟨L5, hL5⟩ : ∃ L5, L5 = (acc ++ prTok b).length := ⟨_, rfl⟩
        rw [← hL5] at HLen
        have HL5 := Lib.hid hL5
        have hL5b : L5 ≤ 20000 := by rw [hL5]; simp only [List.length_append]; omega
        clear hL5
        go_wp2_with fail
        refine HLen.out.mono ?_
        rintro e w6 ⟨rfl, rfl⟩
        by_cases hbig : 8192 < L5
        · have hbi : (8192 : Int) < (L5 : Int) := by omega
          have HBg := Lib.hid hbig
          clear hbig
          go_wp2_with fail
          refine bodyPost_ret (v := .tuple #[.string ⟨#[]⟩, .int .i64 2]) (by simp [results, Tryz.results21, go_sem]) rfl ?_
          exact ⟨HB5.out, .inl ⟨by rw [HJ3.out, List.length_append, ← HL5.out]; have := HBg.out; omega, rfl⟩⟩
        · have hbi : ¬ (8192 : Int) < (L5 : Int) := by omega
          have HBg := Lib.hid hbig
          clear hbig
          go_wp2_with fail
          refine (HRy.out _).mono ?_
          rintro e w7 ⟨rfl, rfl⟩
          go_wp2_with fail
          exact ⟨⟨trivial, i + 1, endR b, (acc ++ prTok b), rfl, rfl, by omega, HJ3.out, by rw [← HL5.out]; have := HBg.out; omega, HK5.out, HB5.out, hz5⟩, by simp [intOf]; omega⟩
      · cases hst : startR b
        · rw [hst] at HRx
          have HSp : Hid (sepB true b = []) := by unfold Hid sepB; rw [hst]; rfl
          clear hst
          go_wp2_with fail
          refine (HRx.out _).mono ?_
          rintro e w4 ⟨rfl, rfl⟩
          go_wp2_with fail
          refine (HWS.out _ _ V (prTok b) HVd.out HNe.out HK3.out HB3.out hz3 (by omega) hple).mono ?_
          rintro e w5 ⟨v5, rfl, hk5, hb5, hz5⟩
          have HK5 := Lib.hid hk5
          have HB5 := Lib.hid hb5
          clear hk5 hb5
          have HLen := Lib.hid (pk_len HK5.out)
          have HJ3 : Hid (J = (acc ++ prTok b) ++ joinL (endR b) ((ts.drop (i + 1)).map (·.b))) := by unfold Hid; rw [HJ2.out, HSp.out]; simp
          obtain ⟨L5, hL5⟩ : ∃ L5, L5 = (acc ++ prTok b).length := ⟨_, rfl⟩
          rw [← hL5] at HLen
          have HL5 := Lib.hid hL5
          have hL5b : L5 ≤ 20000 := by rw [hL5]; simp only [List.length_append]; omega
          clear hL5
          go_wp2_with fail
          refine HLen.out.mono ?_
          rintro e w6 ⟨rfl, rfl⟩
          by_cases hbig : 8192 < L5
          · have hbi : (8192 : Int) < (L5 : Int) := by omega
            have HBg := Lib.hid hbig
            clear hbig
            go_wp2_with fail
            refine bodyPost_ret (v := .tuple #[.string ⟨#[]⟩, .int .i64 2]) (by simp [results, Tryz.results21, go_sem]) rfl ?_
            exact ⟨HB5.out, .inl ⟨by rw [HJ3.out, List.length_append, ← HL5.out]; have := HBg.out; omega, rfl⟩⟩
          · have hbi : ¬ (8192 : Int) < (L5 : Int) := by omega
            have HBg := Lib.hid hbig
            clear hbig
            go_wp2_with fail
            refine (HRy.out _).mono ?_
            rintro e w7 ⟨rfl, rfl⟩
            go_wp2_with fail
            exact ⟨⟨trivial, i + 1, endR b, (acc ++ prTok b), rfl, rfl, by omega, HJ3.out, by rw [← HL5.out]; have := HBg.out; omega, HK5.out, HB5.out, hz5⟩, by simp [intOf]; omega⟩
        · rw [hst] at HRx
          have HSp : Hid (sepB true b = [32]) := by unfold Hid sepB; rw [hst]; rfl
          clear hst
          go_wp2_with fail
          refine (HRx.out _).mono ?_
          rintro e w4 ⟨rfl, rfl⟩
          go_wp2_with fail
          refine (HWB.out _ acc 32 32 rfl HK3.out HB3.out hz3 (by omega)).mono ?_
          rintro e w4 ⟨rfl, hk4, hb4, hz4⟩
          have HK4 := Lib.hid hk4
          have HB4 := Lib.hid hb4
          clear hk4 hb4
          go_wp2_with fail
          refine (HWS.out _ _ V (prTok b) HVd.out HNe.out HK4.out HB4.out hz4 (by rw [List.length_append, List.length_singleton]; omega) hple).mono ?_
          rintro e w5 ⟨v5, rfl, hk5, hb5, hz5⟩
          have HK5 := Lib.hid hk5
          have HB5 := Lib.hid hb5
          clear hk5 hb5
          have HLen := Lib.hid (pk_len HK5.out)
          have HJ3 : Hid (J = ((acc ++ [32]) ++ prTok b) ++ joinL (endR b) ((ts.drop (i + 1)).map (·.b))) := by unfold Hid; rw [HJ2.out, HSp.out]; simp
          obtain ⟨L5, hL5⟩ : ∃ L5, L5 = ((acc ++ [32]) ++ prTok b).length := ⟨_, rfl⟩
          rw [← hL5] at HLen
          have HL5 := Lib.hid hL5
          have hL5b : L5 ≤ 20000 := by rw [hL5]; simp only [List.length_append, List.length_cons, List.length_nil]; omega
          clear hL5
          go_wp2_with fail
          refine HLen.out.mono ?_
          rintro e w6 ⟨rfl, rfl⟩
          by_cases hbig : 8192 < L5
          · have hbi : (8192 : Int) < (L5 : Int) := by omega
            have HBg := Lib.hid hbig
            clear hbig
            go_wp2_with fail
            refine bodyPost_ret (v := .tuple #[.string ⟨#[]⟩, .int .i64 2]) (by simp [results, Tryz.results21, go_sem]) rfl ?_
            exact ⟨HB5.out, .inl ⟨by rw [HJ3.out, List.length_append, ← HL5.out]; have := HBg.out; omega, rfl⟩⟩
          · have hbi : ¬ (8192 : Int) < (L5 : Int) := by omega
            have HBg := Lib.hid hbig
            clear hbig
            go_wp2_with fail
            refine (HRy.out _).mono ?_
            rintro e w7 ⟨rfl, rfl⟩
            go_wp2_with fail
            exact ⟨⟨trivial, i + 1, endR b, ((acc ++ [32]) ++ prTok b), rfl, rfl, by omega, HJ3.out, by rw [← HL5.out]; have := HBg.out; omega, HK5.out, HB5.out, hz5⟩, by simp [intOf]; omega⟩
    · have hii : i = ts.length := by omega
      have hi2 : ¬ (i : Int) < (ts.length : Int) := by omega
      have HJe : Hid (J = acc) := by
        unfold Hid
        rw [HJi.out, List.drop_eq_nil_of_le (by omega)]
        simp [joinL]
      have HSt : Hid (Calls Tryz.prog 46 #[.pointer (some ⟨w.heap.size, 0, none⟩)] wr fun e w' => e = .returned (.string ⟨acc.toArray⟩) ∧ FrX (w.heap.size + 1) w.heap.size wr w') := pk_string HPk.out
      obtain ⟨sv, hsv⟩ : ∃ sv : ByteArray, sv = ⟨acc.toArray⟩ := ⟨_, rfl⟩
      rw [← hsv] at HSt
      have HSv := Lib.hid hsv
      clear hlt hii hsv hbl
      go_wp2_with fail
      refine HSt.out.mono ?_
      rintro e w4 ⟨rfl, hfx⟩
      have HF := Lib.hid (HBl.out.trans ((FrS.of_x (S := fun k => k = w.heap.size) hfx rfl).below (by omega) fun k e => by omega))
      clear hfx
      go_wp2_with fail
      refine bodyPost_ret (v := .tuple #[.string sv, .int .i64 0]) (by simp [results, Tryz.results21, go_sem]) rfl ?_
      exact ⟨HF.out, .inr ⟨by rw [HJe.out]; exact hal, by rw [HSv.out, HJe.out]⟩⟩
end Go.Proofs.YthbdhijkdldmoaaGreatDoor
namespace Go.Proofs.YthbdhijkdldmoaaGreatDoor
open Go.RowKit Tk Ob
def PrintPost (r : Except Int Tk.Src) (w : World) (e : Ending) (w' : World) : Prop :=
  Below w.heap.size w w' ∧ match r with
    | .error er => er ≠ 0 ∧ e = .returned (.tuple #[.string ⟨#[]⟩, .int .i64 er])
    | .ok s => e = .returned (.tuple #[.string ⟨s.toArray⟩, .int .i64 0])
set_option maxRecDepth 100000 in
set_option maxHeartbeats 16000000 in
theorem print_obj (P : Nat → Prop) (o : Ox) (vo : V5) (w : World) (ho : ObjV P w vo o) (hT : Tab10 w) :
    Calls Tryz.prog 10 #[vo.val] w (PrintPost (printO o) w) := by
  have ho1 := ho.mono (Q := fun k => k < w.heap.size) fun k hk _ => hk
  obtain ⟨kv, dv, vs, rfl, h1, h2, -, -⟩ := ho.open_
  obtain ⟨A, ck, rfl⟩ := h1.form
  obtain ⟨Bd, cd, rfl⟩ := h2.form
  have HO : Hid (∀ W, Below w.heap.size w W → ObjV (PO (w.heap.size + 1) (w.heap.size + 2)) W _ o) := fun W hW => (ho1.keep hW.size fun k hk _ => hW.block k hk).mono fun k _ hk => ⟨by omega, by omega⟩
  have HTa : Hid (∀ W, Below w.heap.size w W → Tab10 W) := fun W hb => Tab10.later hT hb
  unfold V5.val
  dsimp only
  generalize (strs o.keys).length = n1 at *
  generalize o.kids.length = n2 at *
  generalize o.kind = k1 at *
  generalize o.int = i1 at *
  generalize (⟨o.text.toArray⟩ : ByteArray) = T2 at *
  have hp : PrS ((w.alloc (.cells #[.int .i64 k1, .int .i64 i1, .string T2, .slice A n1 ck, .slice Bd n2 cd] 25)).alloc (.cells #[.slice none 0 0, .int .i64 0] 47)) (w.heap.size + 1) (w.heap.size + 2) (.slice none 0 0) [] 0 := by
    refine ⟨?_, World.ownsRow_nil _ _ _ _⟩
    have := Blk.new (w.alloc (.cells #[.int .i64 k1, .int .i64 i1, .string T2, .slice A n1 ck, .slice Bd n2 cd] 25)) 47 #[.slice none 0 0, .int .i64 0]
    simpa using this
  have hbox := (Blk.new w 25 #[.int .i64 k1, .int .i64 i1, .string T2, .slice A n1 ck, .slice Bd n2 cd]).alloc (.cells #[.slice none 0 0, .int .i64 0] 47)
  have hl : Below w.heap.size w ((w.alloc (.cells #[.int .i64 k1, .int .i64 i1, .string T2, .slice A n1 ck, .slice Bd n2 cd] 25)).alloc (.cells #[.slice none 0 0, .int .i64 0] 47)) := ((Below.refl _ _).alloc (Nat.le_refl _) _).alloc (by simp) _
  have hs : w.heap.size + 2 = ((w.alloc (.cells #[.int .i64 k1, .int .i64 i1, .string T2, .slice A n1 ck, .slice Bd n2 cd] 25)).alloc (.cells #[.slice none 0 0, .int .i64 0] 47)).heap.size := by simp
  have HP := Lib.hid hp
  have HB := Lib.hid hbox
  have HL := Lib.hid hl
  have HS := Lib.hid hs
  have HR : Hid (printO o = match addF 12 1 o 0 with
    | .error e => .error e
    | .ok (l, _) => if 8192 < (joinL false l).length then .error 2 else .ok (joinL false l)) := rfl
  clear hp hbox hl hs ho ho1 h1 h2 hT
  go_enter Tryz.func10, Tryz.ntmps10
  go_upto_region 2 with (fail)
  generalize (w.alloc (.cells #[.int .i64 k1, .int .i64 i1, .string T2, .slice A n1 ck, .slice Bd n2 cd] 25)).alloc (.cells #[.slice none 0 0, .int .i64 0] 47) = w1 at *
  have hs := HS.out
  have HAd := Lib.hid (add_any (w.heap.size + 1) (w.heap.size + 2) (by omega) 12 1 rfl o _ (.slice none 0 0) [] 0 w1 (by omega) (by simp) (by omega) HP.out (HO.out w1 HL.out) (fun W hW => HTa.out W (HL.out.trans (hW.mono (by omega)))))
  obtain ⟨x0, x1, x2, x3, x4⟩ := b5n_cells HB.out
  unfold V5.val at HAd
  dsimp only at HAd
  generalize hra : addF 12 1 o 0 = ra at *
  have HRa := Lib.hid hra
  clear hra
  go_wp2_with fail
  refine HAd.out.mono ?_
  rintro e w2 ⟨hf2, hq2⟩
  have HF2 : Hid (Below w.heap.size w w2) := HL.out.trans ((hf2.below (B := w.heap.size) (by omega) fun k hk => hk.elim (fun e => by omega) fun e => by simp [Value.ownBlock] at e))
  have hs2 := hf2.size
  clear hf2 HAd x0 x1 x2 x3 x4
  cases ra with
  | error er =>
    obtain ⟨h1, rfl⟩ := hq2
    have H1 := Lib.hid h1
    have he1 : (er != 0) = true := by simpa using h1
    clear h1
    go_wp2_with fail
    go_ret2
    refine ⟨HF2.out, ?_⟩
    rw [HR.out]
    exact ⟨H1.out, rfl⟩
  | ok lm =>
    obtain ⟨l, m⟩ := lm
    obtain ⟨rfl, v2, h1, -⟩ := hq2
    rw [List.nil_append] at h1
    obtain ⟨q1, q2⟩ := add_len 12 1 o 0 l m HRa.out
    obtain ⟨A2, c2, rfl⟩ := own_form h1.own
    have HJ := Lib.hid (join_any (l.map tk0) (.slice A2 l.length c2) (w.heap.size + 2) w2 (by rw [List.length_map]; exact h1.own) (by intro t ht; rw [List.map_map] at ht; simp [Function.comp_def, tk0] at ht; exact add_valid _ _ _ _ _ _ HRa.out t ht) (by rw [List.length_map]; omega) (HTa.out _ HF2.out))
    have hmm : (l.map tk0).map (·.b) = l := by rw [List.map_map]; simp [Function.comp_def, tk0]
    rw [hmm] at HJ
    obtain ⟨p0, p1, -, -, pl⟩ := h1.cells
    clear h1 hmm
    go_wp2_with fail
    refine HJ.out.mono ?_
    rintro e w3 ⟨hb3, hq3⟩
    have HB3 := Lib.hid (HF2.out.trans (hb3.mono HF2.out.size))
    clear hb3 HJ
    rcases hq3 with ⟨h1, rfl⟩ | ⟨h1, rfl⟩
    · have HR2 : Hid (printO o = .error 2) := by unfold Hid; rw [HR.out]; exact if_pos h1
      clear h1
      go_wp2_with fail
      go_ret2
      refine ⟨HB3.out, ?_⟩
      rw [HR2.out]
      exact ⟨by decide, rfl⟩
    · have HR2 : Hid (printO o = .ok (joinL false l)) := by unfold Hid; rw [HR.out]; exact if_neg (by omega)
      obtain ⟨J, hJ⟩ : ∃ J : ByteArray, J = ⟨(joinL false l).toArray⟩ := ⟨_, rfl⟩
      rw [← hJ]
      have HJJ := Lib.hid hJ
      clear h1 hJ
      go_wp2_with fail
      go_ret2
      refine ⟨HB3.out, ?_⟩
      rw [HR2.out]
      show _ = Ending.returned (.tuple #[.string ⟨(joinL false l).toArray⟩, .int .i64 0])
      rw [← HJJ.out]; rfl
def checkO (o : Ox) : Int := match printO o with | .error e => e | .ok _ => 0
set_option maxRecDepth 100000 in
set_option maxHeartbeats 4000000 in
theorem check_obj (P : Nat → Prop) (o : Ox) (vo : V5) (w : World) (ho : ObjV P w vo o) (hT : Tab10 w) :
    Calls Tryz.prog 11 #[vo.val] w fun e w' => e = .returned (.int .i64 (checkO o)) ∧ Below w.heap.size w w' := by
  have HP : Hid (∀ W, Below w.heap.size w W → Calls Tryz.prog 10 #[vo.val] W (PrintPost (printO o) W)) := fun W hW => print_obj P o vo W (ho.later hW) (Tab10.later hT hW)
  have HC : Hid (checkO o = match printO o with | .error e => e | .ok _ => 0) := rfl
  obtain ⟨kv, dv, vs, rfl, h1, h2, -, -⟩ := ho.open_
  obtain ⟨A, ck, rfl⟩ := h1.form
  obtain ⟨Bd, cd, rfl⟩ := h2.form
  unfold V5.val at *
  dsimp only at *
  generalize (strs o.keys).length = n1 at *
  generalize o.kids.length = n2 at *
  generalize o.kind = k1 at *
  generalize o.int = i1 at *
  generalize (⟨o.text.toArray⟩ : ByteArray) = T2 at *
  generalize printO o = r at *
  generalize checkO o = C at *
  have hl : Below w.heap.size w (w.alloc (.cells #[.int .i64 k1, .int .i64 i1, .string T2, .slice A n1 ck, .slice Bd n2 cd] 25)) := (Below.refl _ _).alloc (Nat.le_refl _) _
  have HL := Lib.hid hl
  clear ho h1 h2 hT hl
  go_enter Tryz.func11, Tryz.ntmps11
  go_wp2_with fail
  refine (HP.out _ HL.out).mono ?_
  rintro e w2 ⟨hb2, hq⟩
  have HB2 := Lib.hid (HL.out.trans (hb2.mono HL.out.size))
  clear hb2
  cases r with
  | error er =>
    obtain ⟨-, rfl⟩ := hq
    go_wp2_with fail
    go_ret
    exact ⟨by rw [HC.out]; rfl, HB2.out⟩
  | ok s =>
    subst hq
    go_wp2_with fail
    go_ret
    exact ⟨by rw [HC.out]; rfl, HB2.out⟩
end Go.Proofs.YthbdhijkdldmoaaGreatDoor
