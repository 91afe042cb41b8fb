/- The walk of the law on lines: the tokens of two sources on separate lines are those of both. -/
import Derived.Test.YtenhaohooknkfaaDoorTokEqT
namespace Go.Proofs.YtenhaohooknkfaaDoor
open Go.RowKit Tk
theorem lines_plain {s t : Src} {a : List Tok} (hs : s.length ≤ 4095) (ht : t.length ≤ 4095) (h : scan s = .ok a) : scan (s ++ 10 :: t) = match scan t with
    | .error e => .error (e.1 + (s.length + 1), e.2)
    | .ok b => .ok (a ++ b.map (sh (s.length + 1))) := by
  have hl : (s ++ 10 :: t).length = s.length + 1 + t.length := by simp; omega
  unfold scan at h ⊢
  rw [if_neg (by omega)] at h
  rw [if_neg (by omega), if_neg (by omega)]
  rw [scanF_lines s.length s (s.length + 1) 0 a t ((s ++ 10 :: t).length + 1) (Nat.le_refl _) (Nat.lt_succ_self _) h (Nat.lt_succ_self _)]
  rw [show 0 + s.length + 1 = 0 + (s.length + 1) by omega, scanF_shift, scanF_fuel _ (t.length + 1) 0 t (by omega) (by omega)]
  cases scanF (t.length + 1) 0 t <;> rfl
theorem toksC_set3 (l : List Tok) (i : Nat) (hi : i < l.length) (x : Nat) : (toksC l).set (i * 5 + 3) (.int .i64 (x : Int)) = toksC (l.set i ⟨l[i].b, x, l[i].en⟩) := by
  induction l generalizing i with
  | nil => cases hi
  | cons t r ih =>
    cases i with
    | zero => rfl
    | succ i =>
      rw [List.set_cons_succ, show toksC (t :: r) = tokC t ++ toksC r from rfl, show toksC (t :: r.set i ⟨(t :: r)[i + 1].b, x, (t :: r)[i + 1].en⟩) = tokC t ++ toksC (r.set i ⟨(t :: r)[i + 1].b, x, (t :: r)[i + 1].en⟩) from rfl]
      rw [List.set_append_right _ _ (by simp [tokC]; omega), show (i + 1) * 5 + 3 - (tokC t).length = i * 5 + 3 by simp [tokC]; omega, ih i (by simpa using hi)]
      rfl
theorem toksC_set4 (l : List Tok) (i : Nat) (hi : i < l.length) (x : Nat) : (toksC l).set (i * 5 + 4) (.int .i64 (x : Int)) = toksC (l.set i ⟨l[i].b, l[i].at_, x⟩) := by
  induction l generalizing i with
  | nil => cases hi
  | cons t r ih =>
    cases i with
    | zero => rfl
    | succ i =>
      rw [List.set_cons_succ, show toksC (t :: r) = tokC t ++ toksC r from rfl, show toksC (t :: r.set i ⟨(t :: r)[i + 1].b, (t :: r)[i + 1].at_, x⟩) = tokC t ++ toksC (r.set i ⟨(t :: r)[i + 1].b, (t :: r)[i + 1].at_, x⟩) from rfl]
      rw [List.set_append_right _ _ (by simp [tokC]; omega), show (i + 1) * 5 + 4 - (tokC t).length = i * 5 + 4 by simp [tokC]; omega, ih i (by simpa using hi)]
      rfl
theorem own_putk {w : World} {base g n cap k size : Nat} {t : TypeId} {xs : List Value} (h : w.ownsRow base t size (.slice (some ⟨g, 0, none⟩) n cap) n xs) (u : Value) : (w.setCell ⟨g, k, none⟩ u).ownsRow base t size (.slice (some ⟨g, 0, none⟩) n cap) n (xs.set k u) := by
  obtain ⟨hl, h⟩ := h
  refine ⟨by simpa using hl, ?_⟩
  rcases h with ⟨e, _⟩ | ⟨g', cap', cur, e, hg, hh, hn, hc, hs, hx⟩
  · cases e
  · injection e with e1 _ e3
    injection e1 with e1
    injection e1 with e1
    subst e1; subst e3
    refine .inr ⟨g, cap, cur.setIfInBounds k u, rfl, hg, ?_, hn, hc, by simpa using hs, ?_⟩
    · simp [World.setCell, Array.getElem?_modify, hh]
    · rw [Array.toList_setIfInBounds, List.take_set, hx]
theorem tokC_one (l : List Tok) : ∀ u ∈ toksC l, u.oneCell' = true := by
  intro u hu
  unfold toksC at hu
  obtain ⟨t, -, h⟩ := List.mem_flatMap.1 hu
  simp [tokC] at h
  rcases h with h | h | h | h | h <;> (rw [h]; rfl)
theorem scan_form {T : Except (Nat × Int) (List Tok)} {w w' : World} {e : Ending} (h : ScanPost T w e w') : ∃ v q er, e = .returned (.tuple #[v, .int .i64 q, .int .i64 er]) ∧ Below w.heap.size w w' := by
  obtain ⟨hb, hp⟩ := h
  match T, hp with
  | .error (q, er), hp => exact ⟨_, _, _, hp, hb⟩
  | .ok ts, ⟨v, hp, _⟩ => exact ⟨_, _, _, hp, hb⟩
theorem scanF_at : ∀ (f p : Nat) (l : Src) (q : Nat) (er : Int), l.length < f → scanF f p l = .error (q, er) → q ≤ p + l.length
  | 0, _, _, _, _, hl, _ => by omega
  | f + 1, p, l, q, er, hl, h => by
    rw [scanF_step] at h
    split at h
    · cases h
    · rename_i x r hx
      have hk := skip_le false l
      split at h
      · rename_i e he
        injection h with h
        injection h with h1 h2
        omega
      · rename_i t n ho
        obtain ⟨a, b, hO⟩ := one_own ho
        have e1 := congrArg List.length hx
        have e4 := congrArg List.length hO.eq
        rw [List.length_append] at e4
        have := hO.len
        have := hO.pos
        have : 0 < (x :: r).length := by simp
        split at h
        · rename_i e he
          injection h with h
          subst h
          have hd : ((x :: r).drop n).length = (x :: r).length - n := List.length_drop
          rw [List.length_drop] at e1
          have := scanF_at f _ _ _ _ (by omega) he
          omega
        · cases h
theorem scan_at {s : Src} {q : Nat} {er : Int} (h : scan s = .error (q, er)) : q ≤ s.length := by
  unfold scan at h
  split at h
  · injection h with h; injection h with h1 h2; omega
  · have := scanF_at _ _ _ _ _ (Nat.lt_succ_self _) h; omega
theorem scan_en : ∀ {ts : List Tok} {f p : Nat} {l : Src}, scanF f p l = .ok ts → l.length < f → ∀ t ∈ ts, t.at_ ≤ p + l.length ∧ t.en ≤ p + l.length
  | [], _, _, _, _, _ => fun t h => by cases h
  | u :: us, f, p, l, h, hf => by
    rcases scanF_left h hf with ⟨h1, -⟩ | ⟨b, n, ts', x, r, a, c, h1, h2, hO, h3, h4, h5, h6, h7⟩
    · cases h1
    · injection h1 with h1 h8
      subst h1 h8
      have hk := skip_le false l
      have e0 := congrArg List.length h3
      have e1 := congrArg List.length hO.eq
      rw [List.length_drop] at e0
      rw [List.length_append, ← hO.len] at e1
      intro t ht
      rcases List.mem_cons.1 ht with rfl | ht
      · dsimp only; omega
      · have := scan_en h7 (by omega) t ht
        omega
/-- append, also behind a guard, by its run. -/
theorem wpList_append_g {P : Program} {w w' : World} {ops : Array Oper} {rest : List Oper} {o : Oper} {a : Act} {Q : Exit → Act → World → Prop} (hw : Region.wanted o (yielded ops a.tmps) = true) (s x : Operand) (t ty : TypeId)
    (ho : o.op = .call { callee := .builtin .append, args := #[s, x], argTypes := #[t, t] }) (hty : o.type = ty) (va vb v' : Value) (hs : a.eval s = va) (hx : a.eval x = vb)
    (hrun : (Builtin.append_ #[t, t] ty #[va, vb]).run P w = .ok v' w') (h : wpList P ops Q rest (a.put o.dst v') w') : wpList P ops Q (o :: rest) a w :=
  Go.BigFrame.wpList_want hw fun K hK => by
    unfold Oper.wp execOp
    simp only [ho, hty, resolve, invoke, builtin, Sem.run_bind, Sem.run_pure, Result.andThen_ok, List.map_toArray, List.map_cons, List.map_nil, hs, hx, hrun]
    exact hK _ _ h
/-- The first tokens moved, the others not yet. -/
def mv (D : Nat) (b : List Tok) (i : Nat) : List Tok := (b.take i).map (sh D) ++ b.drop i
theorem mv_len (D : Nat) (b : List Tok) (i : Nat) (hi : i ≤ b.length) : (mv D b i).length = b.length := by simp [mv]; omega
theorem mv_get (D : Nat) (b : List Tok) (i : Nat) (hi : i < b.length) (h : i < (mv D b i).length) : (mv D b i)[i] = b[i] := by
  have h1 : (mv D b i)[i]? = some b[i] := by
    unfold mv
    rw [List.getElem?_append_right (by simp; omega), List.getElem?_drop]
    simp [Nat.min_eq_left (Nat.le_of_lt hi), hi]
  rw [List.getElem?_eq_getElem h] at h1
  exact Option.some.inj h1
theorem mv_next (D : Nat) (b : List Tok) (i : Nat) (hi : i < b.length) (x : Tok) (hx : x = sh D b[i]) : (mv D b i).set i x = mv D b (i + 1) := by
  have hl : ((b.take i).map (sh D)).length = i := by rw [List.length_map, List.length_take]; omega
  unfold mv
  rw [List.set_append_right _ _ (by omega), hl, Nat.sub_self, List.drop_eq_getElem_cons hi, List.set_cons_zero, hx, List.take_succ_eq_append_getElem hi, List.map_append, List.append_assoc]
  rfl
theorem mv_all (D : Nat) (b : List Tok) : mv D b b.length = b.map (sh D) := by simp [mv]
theorem mv_zero (D : Nat) (b : List Tok) : mv D b 0 = b := by simp [mv]
theorem cat_bys (S T : ByteArray) : bys (S ++ ⟨#[10]⟩ ++ T) = bys S ++ 10 :: bys T := by
  unfold bys
  rw [ByteArray.data_append, ByteArray.data_append]
  simp
theorem own_free {w : World} {base n g cap size : Nat} {t : TypeId} {xs : List Value} (h : w.ownsRow base t size (.slice (some ⟨g, 0, none⟩) n cap) n xs) : ∀ k, w.frozen? ⟨g, k, none⟩ = false := by
  intro k
  rcases h.2 with ⟨e, _⟩ | ⟨g', cap', cur, e, hg, hh, _⟩
  · cases e
  · injection e with e1
    injection e1 with e1
    injection e1 with e1
    subst e1
    simp [World.frozen?, hh]
/-- append of one row to another, as an equation. -/
theorem append_rows {w : World} {base bb : Nat} {va vb : Value} {a b : List Tok} (ha : w.ownsRow base 28 5 va a.length (toksC a)) (hb : w.ownsRow bb 28 5 vb b.length (toksC b)) (hn : a.length + b.length ≤ 100000) (hbase : base ≤ w.heap.size) :
    ∃ v' w', (Builtin.append_ #[23, 23] 23 #[va, vb]).run Tryd.prog w = .ok v' w' ∧ w'.ownsRow base 28 5 v' (a ++ b).length (toksC (a ++ b)) ∧ w.grownBy w' va.ownBlock := by
  obtain ⟨i, h2, h3, h4, h5⟩ := eTk.hi
  have hcc : toksC (a ++ b) = toksC a ++ toksC b := by unfold toksC; rw [List.flatMap_append]
  rw [List.length_append, hcc]
  obtain ⟨A, c, rfl⟩ := own_n hb
  rcases hb.2 with ⟨e, h0⟩ | ⟨g, cap, cur, e, hg, hh, _⟩
  · injection e with e1 e2 e3
    subst e1
    obtain rfl : b = [] := List.eq_nil_of_length_eq_zero h0
    exact ⟨va, w, run_append_nil_src (P := Tryd.prog) w base _ _ _ i 5 eTk.ht h2 va a.length _ ha c, by simpa [toksC] using ha, World.grownBy.refl w _⟩
  · injection e with e1 e2 e3
    subst e1
    obtain ⟨v', w', hrun, a1, a2, _, a4⟩ := run_append_own_at (P := Tryd.prog) w base 23 23 28 i _ 5 48 eTk.ht h2 h3 h4 h5 eTk.hz (by omega) va a.length _ ha ⟨g, 0, none⟩ b.length c (toksC b) (toksC_len b)
      (fun j u hu => hb.cells (g := g) rfl j u hu) (tokC_one b) (by unfold maxLen; omega) (by omega) hbase
    exact ⟨v', w', hrun, a1, a2⟩
set_option maxRecDepth 100000 in
set_option maxHeartbeats 16000000 in
theorem lines_law (S T : ByteArray) (w : World) (hS : S.size ≤ maxLen) (hT : T.size ≤ maxLen) :
    Calls Tryd.prog 4 #[.string S, .string T] w fun e w' => e = .returned (.bool true) ∧ Below w.heap.size w w' := by
  have HSc := Lib.hid fun S W => Scan_any S W
  have HHs := Lib.hid fun W => head_any S 4095 W hS (by omega)
  have HHt := Lib.hid fun W => head_any T 4095 W hT (by omega)
  have hs4 : (S.extract 0 4095).size ≤ 4095 := by rw [← bys_len, bys_ext, List.length_take]; omega
  have ht4 : (T.extract 0 4095).size ≤ 4095 := by rw [← bys_len, bys_ext, List.length_take]; omega
  generalize S.extract 0 4095 = S1 at *
  generalize T.extract 0 4095 = T1 at *
  obtain ⟨X, hX⟩ : ∃ X : Src, X = bys S1 ++ 10 :: bys T1 := ⟨_, rfl⟩
  have HCat := Lib.hid hX
  clear hX hS hT
  go_enter Tryd.func4, Tryd.ntmps4
  go_wp2_with fail
  refine (scans_any w).mono ?_
  rintro e w1 ⟨rfl, hb1⟩
  have HB1 := Lib.hid hb1
  clear hb1
  go_wp2_with fail
  refine (HHs.out _).mono ?_
  rintro e w1' ⟨rfl, rfl⟩
  go_wp2_with fail
  refine (HHt.out _).mono ?_
  rintro e w1' ⟨rfl, rfl⟩
  go_wp2_with fail
  refine (HSc.out S1 w1).mono ?_
  rintro e w2 ⟨hb2, hp2⟩
  have HB2 := Lib.hid (HB1.out.trans (hb2.mono HB1.out.size))
  have h12 := hb2.size
  clear hb2
  cases hsa : scan (bys S1) with
  | error qe =>
    obtain ⟨q, er⟩ := qe
    rw [hsa] at hp2
    dsimp only at hp2
    subst hp2
    have her : (er != 0) = true := by simpa using scan_err hsa
    clear hsa
    go_wp2_with fail
    refine (HSc.out T1 w2).mono ?_
    rintro e w3 hp3
    obtain ⟨v3, q3, e3, rfl, hb3⟩ := scan_form hp3
    have HB3 := Lib.hid (HB2.out.trans (hb3.mono HB2.out.size))
    clear hp3 hb3
    go_wp2_with fail
    refine (HSc.out _ w3).mono ?_
    rintro e w4 hp4
    obtain ⟨v4, q4, e4, rfl, hb4⟩ := scan_form hp4
    have HB4 := Lib.hid (HB3.out.trans (hb4.mono HB3.out.size))
    clear hp4 hb4
    go_wp2_with fail
    go_ret
    exact ⟨rfl, HB4.out⟩
  | ok a =>
    rw [hsa] at hp2
    obtain ⟨va, rfl, hoa⟩ := hp2
    have hla : a.length ≤ (bys S1).length := by
      unfold scan at hsa
      rw [if_neg (by rw [bys_len]; omega)] at hsa
      exact scan_len hsa (Nat.lt_succ_self _)
    rw [bys_len] at hla
    have hpl := lines_plain (t := bys T1) (by rw [bys_len]; exact hs4) (by rw [bys_len]; exact ht4) hsa
    rw [← HCat.out, bys_len] at hpl
    have HOa := Lib.hid hoa
    clear hoa hsa
    go_wp2_with fail
    refine (HSc.out T1 w2).mono ?_
    rintro e w3 ⟨hb3, hp3⟩
    have HOa3 := Lib.hid (own_below HOa.out hb3)
    have HB3 := Lib.hid (HB2.out.trans (hb3.mono HB2.out.size))
    have h23 := hb3.size
    clear hb3
    cases hsb : scan (bys T1) with
    | error qe =>
      obtain ⟨q, er⟩ := qe
      rw [hsb] at hp3 hpl
      dsimp only at hp3 hpl
      subst hp3
      have her0 := scan_err hsb
      have hqt := scan_at hsb
      rw [bys_len] at hqt
      have q4 : (q : Int) ≤ 4095 := by omega
      have her : (er != 0) = true := by simpa using her0
      have HPl := Lib.hid hpl
      clear hsb hpl
      go_wp2_with fail
      refine (HSc.out _ w3).mono ?_
      rintro e w4 hp4
      rw [cat_bys, ← HCat.out, HPl.out] at hp4
      obtain ⟨hb4, rfl⟩ := hp4
      have HB4 := Lib.hid (HB3.out.trans (hb4.mono HB3.out.size))
      clear hb4
      have q1 : (er == er) = true := by simp
      have q2 : (((q + (S1.size + 1) : Nat) : Int) == (S1.size : Int) + 1 + (q : Int)) = true := by rw [beq_iff_eq]; omega
      have q3 : ((q : Int) + ((S1.size : Int) + 1) == (S1.size : Int) + 1 + (q : Int)) = true := by rw [beq_iff_eq]; omega
      go_wp2_with fail
      go_ret
      exact ⟨rfl, HB4.out⟩
    | ok b =>
      rw [hsb] at hp3 hpl
      obtain ⟨vb, rfl, hob⟩ := hp3
      have hlb : b.length ≤ (bys T1).length := by
        unfold scan at hsb
        rw [if_neg (by rw [bys_len]; omega)] at hsb
        exact scan_len hsb (Nat.lt_succ_self _)
      rw [bys_len] at hlb
      dsimp only at hpl
      have hen : ∀ t ∈ b, t.at_ ≤ 4095 ∧ t.en ≤ 4095 := fun t ht => by
        unfold scan at hsb
        rw [if_neg (by rw [bys_len]; omega)] at hsb
        have := scan_en hsb (Nat.lt_succ_self _) t ht
        rw [bys_len] at this; omega
      have HEn := Lib.hid hen
      have HPl := Lib.hid hpl
      have HOb := Lib.hid hob
      clear hob hsb hpl hen
      go_wp2_with fail
      refine (HSc.out _ w3).mono ?_
      rintro e w4 hp4
      rw [cat_bys, ← HCat.out, HPl.out] at hp4
      obtain ⟨hb4, vl, rfl, hol⟩ := hp4
      have HOl := Lib.hid hol
      have HOa4 := Lib.hid (own_below HOa3.out hb4)
      have HOb4 := Lib.hid (own_below HOb.out hb4)
      have HB4 := Lib.hid (HB3.out.trans (hb4.mono HB3.out.size))
      have h34 := hb4.size
      have hla3 := fun k e => (own_lt HOa3.out k e).2
      have hlb3 := own_lt HOb.out
      have hll := own_lt hol
      have HNe : Hid ((∀ k, vb.ownBlock = some k → va.ownBlock ≠ some k) ∧ (∀ k, vb.ownBlock = some k → vl.ownBlock ≠ some k) ∧ (∀ k, vb.ownBlock = some k → w.heap.size ≤ k)) := by
        refine ⟨fun k h1 h2 => ?_, fun k h1 h2 => ?_, fun k h1 => ?_⟩
        · have := own_lt HOa.out k h2; have := hlb3 k h1; omega
        · have := hll k h2; have := hlb3 k h1; omega
        · have := HB2.out.size; have := hlb3 k h1; omega
      obtain ⟨Ab, cb, rfl⟩ := own_n HOb.out
      obtain ⟨Aa, ca, rfl⟩ := own_n HOa.out
      obtain ⟨Al, cl, rfl⟩ := own_n HOl.out
      clear hb4 hol hla3 hlb3 hll
      go_wp2_with fail
      go_loopw [60] (fun v60 wq => True ∧ ∃ (i : Nat), v60 = .int .i64 i ∧ i ≤ b.length ∧ wq.ownsRow w2.heap.size 28 5 (.slice Ab b.length cb) b.length (toksC (mv (S1.size + 1) b i)) ∧ wq.ownsRow w1.heap.size 28 5 (.slice Aa a.length ca) a.length (toksC a) ∧ wq.ownsRow w3.heap.size 28 5 (.slice Al (a.length + b.length) cl) (a.length + b.length) (toksC (a ++ b.map (sh (S1.size + 1)))) ∧ Below w.heap.size w wq ∧ w4.heap.size ≤ wq.heap.size) (fun v60 _ => b.length - (intOf v60).toNat)
      case atStart => exact ⟨trivial, 0, rfl, Nat.zero_le _, by rw [mv_zero]; exact HOb4.out, HOa4.out, by have := HOl.out; simpa using this, HB4.out, Nat.le_refl _⟩
      case round =>
        obtain ⟨-, i, rfl, hi, ob, oa, ol, hbl, hz4⟩ := hrel
        have HBl := Lib.hid hbl
        have OA := Lib.hid oa
        have OL := Lib.hid ol
        have OB := Lib.hid ob
        clear oa ol hbl
        by_cases hlt : i < b.length
        · have hi1 : (i : Int) < (b.length : Int) := by omega
          have hi0 : (0 : Int) ≤ (i : Int) := by omega
          have hlm := mv_len (S1.size + 1) b i hi
          obtain ⟨g, rfl, hg1, hg2⟩ := own_some ob (by omega)
          obtain ⟨t0, t1, t2, t3, t4⟩ := toks_cells ob i (by omega)
          obtain ⟨he1, he2⟩ := HEn.out b[i] (List.getElem_mem hlt)
          rw [mv_get _ b i hlt (by omega)] at t3 t4
          have fz3 := own_free ob (i * 5 + 3)
          have fz4 := own_free ob (i * 5 + 4)
          have HSet : Hid (((wr.setCell ⟨g, i * 5 + 3, none⟩ (.int .i64 ((b[i].at_ : Int) + ((S1.size : Int) + 1)))).setCell ⟨g, i * 5 + 4, none⟩ (.int .i64 ((b[i].en : Int) + ((S1.size : Int) + 1)))).ownsRow w2.heap.size 28 5 (.slice (some ⟨g, 0, none⟩) b.length cb) b.length (toksC (mv (S1.size + 1) b (i + 1)))) := by
            have h1 := own_putk (k := i * 5 + 3) OB.out (.int .i64 ((b[i].at_ + (S1.size + 1) : Nat) : Int))
            rw [toksC_set3 _ i (by omega)] at h1
            have h2 := own_putk (k := i * 5 + 4) h1 (.int .i64 ((b[i].en + (S1.size + 1) : Nat) : Int))
            rw [toksC_set4 _ i (by simp; omega), List.getElem_set_self, List.set_set, mv_get _ b i hlt (by omega)] at h2
            have h3 := mv_next (S1.size + 1) b i hlt ⟨b[i].b, b[i].at_ + (S1.size + 1), b[i].en + (S1.size + 1)⟩ rfl
            rw [h3] at h2
            exact h2
          have HNa : Hid (∀ u3 u4 : Value, ((wr.setCell ⟨g, i * 5 + 3, none⟩ u3).setCell ⟨g, i * 5 + 4, none⟩ u4).ownsRow w1.heap.size 28 5 (.slice Aa a.length ca) a.length (toksC a)) := fun u3 u4 => own_setCell (own_setCell OA.out (.inr (HNe.out.1 g rfl)) u3) (.inr (HNe.out.1 g rfl)) u4
          have HNl : Hid (∀ u3 u4 : Value, ((wr.setCell ⟨g, i * 5 + 3, none⟩ u3).setCell ⟨g, i * 5 + 4, none⟩ u4).ownsRow w3.heap.size 28 5 (.slice Al (a.length + b.length) cl) (a.length + b.length) (toksC (a ++ b.map (sh (S1.size + 1))))) := fun u3 u4 => own_setCell (own_setCell OL.out (.inr (fun e => HNe.out.2.1 g rfl (by simpa [Value.ownBlock] using e))) u3) (.inr (fun e => HNe.out.2.1 g rfl (by simpa [Value.ownBlock] using e))) u4
          have HBx : Hid (∀ u3 u4 : Value, Below w.heap.size w ((wr.setCell ⟨g, i * 5 + 3, none⟩ u3).setCell ⟨g, i * 5 + 4, none⟩ u4)) := fun u3 u4 => (HBl.out.setCell (p := ⟨g, i * 5 + 3, none⟩) (HNe.out.2.2 g rfl) u3).setCell (p := ⟨g, i * 5 + 4, none⟩) (HNe.out.2.2 g rfl) u4
          generalize b[i].at_ = ta at *
          generalize b[i].en = te at *
          clear t0 t1 t2 ob
          go_wp2_with fail
          exact ⟨⟨trivial, i + 1, rfl, by omega, HSet.out, HNa.out _ _, HNl.out _ _, HBx.out _ _, by simpa using hz4⟩, by simp [intOf]; omega⟩
        · have hib : i = b.length := by omega
          have hi2 : ¬ (i : Int) < (b.length : Int) := by omega
          rw [hib, mv_all] at OB
          have hlm2 : (b.map (sh (S1.size + 1))).length = b.length := by simp
          obtain ⟨vz, wz, hrun, hoz, hgz⟩ := append_rows (b := b.map (sh (S1.size + 1))) OA.out (by rw [hlm2]; exact OB.out) (by rw [hlm2]; omega) (by omega)
          have hfz : FrS wr.heap.size (fun k => (Value.slice Aa a.length ca).ownBlock = some k) wr wz := (FrS.refl _ _ _).grown hgz (Nat.le_refl _) (fun k e => .inr e)
          have hol := hfz.own OL.out (fun k e => ⟨(own_lt OL.out k e).2, fun e2 => by have := (own_lt HOa3.out k e2).2; have := (own_lt OL.out k e).1; omega⟩)
          have HEq := Lib.hid (equal_toks _ _ (a ++ b.map (sh (S1.size + 1))) _ _ wz (by simpa using hol) hoz (by simp; omega))
          have HBz : Hid (Below w.heap.size w wz) := HBl.out.trans (hfz.below (by have := HBl.out.size; omega) (fun k e => by have := (own_lt HOa.out k e).1; have := HB1.out.size; omega))
          clear hoz hgz hfz hol hlm2 hib hlt
          have HRun := Lib.hid hrun
          clear hrun
          go_wp2_with (at_builtin; refine wpList_append_g (by rfl) (.tmp 90) (.tmp 91) 23 23 rfl rfl _ _ vz rfl rfl HRun.out ?_)
          refine HEq.out.mono ?_
          rintro e w9 ⟨rfl, hb9⟩
          go_wp2_with fail
          go_ret
          exact ⟨rfl, HBz.out.trans (hb9.mono HBz.out.size)⟩
end Go.Proofs.YtenhaohooknkfaaDoor
