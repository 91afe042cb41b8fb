/- The walk of the law on places: each token is read from its own bytes, and between tokens there is nothing. -/
import Derived.Test.YtenhaohooknkfaaDoorTokBare
import Derived.Deep.RegionHeld3
namespace Go.Proofs.YtenhaohooknkfaaDoor
open Go.RowKit Tk
def endT (n : Nat) : Tok := ⟨⟨0, 0, []⟩, n, n⟩
theorem bys_ext (S : ByteArray) (p q : Nat) : bys (S.extract p q) = ((bys S).drop p).take (q - p) := by
  rw [ext_run, int_bys]
theorem scanF_err : ∀ (f p : Nat) (l : Src) (q : Nat) (er : Int), l.length < f → scanF f p l = .error (q, er) → er ≠ 0
  | 0, _, _, _, _, hl, _ => by omega
  | f + 1, p, l, q, er, hl, h => by
    rw [scanF_step] at h
    split at h
    · cases h
    · rename_i x r hx
      split at h
      · rename_i e he
        injection h with h
        injection h with h1 h2
        rw [← h2]; exact one_err he
      · rename_i t n ho
        obtain ⟨a, b, hO⟩ := one_own ho
        split at h
        · rename_i e he
          injection h with h
          subst h
          refine scanF_err f _ _ _ _ ?_ he
          have e1 := congrArg List.length hx
          have := hO.len
          have := hO.pos
          have : 0 < (x :: r).length := by simp
          rw [List.length_drop] at e1 ⊢
          omega
        · cases h
theorem scan_err {s : Src} {q : Nat} {er : Int} (h : scan s = .error (q, er)) : er ≠ 0 := by
  unfold scan at h
  split at h
  · injection h with h; injection h with h1 h2; rw [← h2]; decide
  · exact scanF_err _ _ _ _ _ (Nat.lt_succ_self _) h
theorem scan_len : ∀ {ts : List Tok} {f p : Nat} {l : Src}, scanF f p l = .ok ts → l.length < f → ts.length ≤ l.length
  | [], _, _, _, _, _ => Nat.zero_le _
  | t :: us, f, p, l, h, hf => by
    rcases scanF_left h hf with ⟨h1, -⟩ | ⟨b, n, ts', x, r, a, c, h1, h2, hO, h3, h4, h5, h6, h7⟩
    · cases h1
    · injection h1 with h1 h8
      subst h8
      have := scan_len h7 (by omega)
      rw [List.length_cons]; omega
theorem own_n {w : World} {base : Nat} {e : TypeId} {size : Nat} {v : Value} {n : Nat} {xs : List Value} (h : w.ownsRow base e size v n xs) : ∃ A c, v = .slice A n c := by
  rcases h.2 with ⟨rfl, rfl⟩ | ⟨g, cap, cur, rfl, _⟩
  · exact ⟨_, _, rfl⟩
  · exact ⟨_, _, rfl⟩
/-- What is known where us is left to be looked at from place p on. -/
theorem cov_end {S : ByteArray} {f p : Nat} (h : scanF f p ((bys S).drop p) = .ok []) (hf : ((bys S).drop p).length < f) (hs : S.size ≤ 8192) (hp : p ≤ S.size) : scan (bys (S.extract p S.size)) = .ok [] ∧ scan (bys (S.extract S.size S.size)) = .ok [] := by
  rcases scanF_left h hf with ⟨-, h2⟩ | ⟨t, n, ts', x, r, a, b, h1, _⟩
  · have hl : (bys S).length = S.size := bys_len S
    constructor
    · rw [bys_ext, List.take_of_length_le (by rw [List.length_drop]; omega)]
      exact scan_gap h2 (by rw [List.length_drop]; omega)
    · rw [bys_ext, Nat.sub_self, List.take_zero]
      exact scan_gap rfl (by simp)
  · cases h1
theorem cov_tok {S : ByteArray} {f p : Nat} {t : Tok} {us : List Tok} (h : scanF f p ((bys S).drop p) = .ok (t :: us)) (hf : ((bys S).drop p).length < f) (hs : S.size ≤ 8192) (hp : p ≤ S.size) :
    p ≤ t.at_ ∧ t.at_ ≤ t.en ∧ t.en ≤ S.size ∧ 1 ≤ t.b.kind ∧ scan (bys (S.extract p t.at_)) = .ok [] ∧ (∃ n, scan (bys (S.extract t.at_ t.en)) = .ok [⟨t.b, 0, n⟩]) ∧ scanF f t.en ((bys S).drop t.en) = .ok us ∧ ((bys S).drop t.en).length < f := by
  rcases scanF_left h hf with ⟨h1, -⟩ | ⟨b, n, ts', x, r, a, c, h1, h2, hO, h3, h4, h5, h6, h7⟩
  · cases h1
  · injection h1 with h1 h8
    subst h1 h8
    have hl : (bys S).length = S.size := bys_len S
    have hk := skip_le false ((bys S).drop p)
    rw [List.length_drop] at hk
    have e2 : ((bys S).drop (p + skipN false ((bys S).drop p))) = x :: r := by rw [← List.drop_drop]; exact h3
    have e3 := congrArg List.length e2
    have e4 := congrArg List.length hO.eq
    rw [List.length_drop] at e3
    rw [List.length_append, ← hO.len] at e4
    have e5 : (bys S).drop (p + skipN false ((bys S).drop p) + n) = c := by
      rw [← List.drop_drop, e2, hO.eq, hO.len, List.drop_left]
    refine ⟨Nat.le_add_right _ _, Nat.le_add_right _ _, by dsimp only; omega, ?_, ?_, ⟨n, ?_⟩, ?_, ?_⟩
    · have := hO.same c hO.stop
      exact (vtok_pos (one_valid this).1).1
    · dsimp only
      rw [bys_ext, Nat.add_sub_cancel_left]
      exact scan_gap (by rw [skip_take]; rw [List.length_take]; rw [List.length_drop]; omega) (by rw [List.length_take]; omega)
    · dsimp only
      rw [bys_ext, Nat.add_sub_cancel_left, e2, hO.eq, hO.len, List.take_left]
      rw [← hO.len]
      exact scan_own (l := []) hO ⟨h4, h5⟩ (by omega)
    · dsimp only; rw [e5]; exact h7
    · dsimp only; rw [List.length_drop]; rw [List.length_drop] at hf; omega
set_option maxRecDepth 100000 in
set_option maxHeartbeats 16000000 in
theorem cover_law (S : ByteArray) (w : World) :
    Calls Tryd.prog 3 #[.string S] w fun e w' => e = .returned (.bool true) ∧ Below w.heap.size w w' := by
  have HSc := Lib.hid fun S W => Scan_any S W
  go_enter Tryd.func3, Tryd.ntmps3
  go_wp2_with fail
  refine (scans_any w).mono ?_
  rintro e w1 ⟨rfl, hb1⟩
  have HB1 := Lib.hid hb1
  clear hb1
  go_wp2_with fail
  refine (HSc.out S w1).mono ?_
  rintro e w2 ⟨hb2, hpo⟩
  have HB2 := Lib.hid (HB1.out.trans (hb2.mono HB1.out.size))
  clear hb2
  cases hsc : scan (bys S) with
  | error qe =>
    obtain ⟨q, er⟩ := qe
    rw [hsc] at hpo
    dsimp only at hpo
    subst hpo
    have her : (er != 0) = true := by simpa using scan_err hsc
    clear hsc
    go_wp2_with fail
    go_ret
    exact ⟨rfl, HB2.out⟩
  | ok ts =>
    rw [hsc] at hpo
    obtain ⟨v, rfl, ho⟩ := hpo
    have hsz : S.size ≤ 8192 := by
      unfold scan at hsc
      split at hsc
      · cases hsc
      · rw [bys_len] at *; omega
    have hF : scanF (S.size + 1) 0 ((bys S).drop 0) = .ok ts := by
      unfold scan at hsc
      rw [if_neg (by rw [bys_len]; omega), bys_len] at hsc
      rw [List.drop_zero]; exact hsc
    have hfu : ((bys S).drop 0).length < S.size + 1 := by rw [List.length_drop, bys_len]; omega
    have htl := scan_len hF hfu
    have HF := Lib.hid hF
    replace ho := own_base ho HB1.out.size
    have hz2 := HB2.out.size
    have HO := Lib.hid ho
    have hg1 := own_lt ho
    have HG1 := Lib.hid hg1
    obtain ⟨A, c, rfl⟩ := own_n ho
    clear hsc ho hg1 hF
    go_wp2_with (at_builtin; go_must (refine wpList_pushk eTk rfl (.tmp 25) (.tmp 31) rfl w.heap.size (.slice A ts.length c) ts.length _ rfl (own_below HO.out ((Below.refl w2.heap.size w2).alloc (Nat.le_refl _) _)) ⟨w2.heap.size, 0, none⟩ 1 (tokC (endT S.size)) rfl rfl (news_new _ _ _ _ rfl) (by simp [Value.oneCell', tokC]) (by omega) (by omega) (by omega) (by simp; omega) ?_); go_must (intro v' w3 hown3 hgr3 hk3; have HO3 := Lib.hid hown3; have HGr3 := Lib.hid hgr3; clear hown3 hgr3 hk3; obtain ⟨g3, c3, rfl, -, -⟩ := HO3.out.form (by omega)))
    have HB3 : Hid (Below w.heap.size w w3) := ((FrS.of_below (S := fun _ => False) (HB2.out.alloc HB2.out.size (.cells (tokC (endT S.size)).toArray 28)) (Nat.le_refl _)).grown HGr3.out (by simp; omega) (fun j e => .inl (HG1.out j e).1)).below (Nat.le_refl _) fun _ e => e.elim
    have hTS : toksC ts ++ tokC (endT S.size) = toksC (ts ++ [endT S.size]) := (toksC_snoc _ _).symm
    rw [hTS] at HO3
    have hM2 : ts.length ≤ 8192 := by rw [List.length_drop, bys_len] at htl; omega
    clear hTS htl hfu HGr3 HG1 HO
    go_loopw [34, 6] (fun v34 v6 wq => True ∧ ∃ (i p : Nat), v34 = .int .i64 i ∧ v6 = .int .i64 p ∧ i ≤ ts.length + 1 ∧ p ≤ S.size ∧ Hid (i ≤ ts.length → scanF (S.size + 1) p ((bys S).drop p) = .ok (ts.drop i) ∧ ((bys S).drop p).length < S.size + 1) ∧ wq.ownsRow w.heap.size 28 5 (.slice (some ⟨g3, 0, none⟩) (ts.length + 1) c3) (ts.length + 1) (toksC (ts ++ [endT S.size])) ∧ Below w.heap.size w wq) (fun v34 _ _ => ts.length + 1 - (intOf v34).toNat)
    case atStart => exact ⟨trivial, 0, 0, rfl, rfl, Nat.zero_le _, Nat.zero_le _, fun _ => ⟨by rw [List.drop_zero (l := ts)]; exact HF.out, by rw [List.length_drop, bys_len]; omega⟩, HO3.out, HB3.out⟩
    case round =>
      obtain ⟨-, i, p, rfl, rfl, hi, hp, HU, ho, hbl⟩ := hrel
      have HO := Lib.hid ho
      have HBl := Lib.hid hbl
      have hzr := hbl.size
      clear hbl
      by_cases hlt : i ≤ ts.length
      · have hi1 : (i : Int) < (ts.length : Int) + 1 := by omega
        have hi2 : i < ts.length + 1 := by omega
        have hid : decide ((i : Int) < (ts.length : Int) + 1) = true := decide_eq_true hi1
        have hi0 : (0 : Int) ≤ (i : Int) := by omega
        obtain ⟨hu1, hu2⟩ := HU.out hlt
        have hil : i < (ts ++ [endT S.size]).length := by simp; omega
        obtain ⟨t0, t1, t2, t3, t4⟩ := toks_cells ho i hil
        have hg3 := (own_lt ho g3 rfl).2
        by_cases hlast : i < ts.length
        · have hget : (ts ++ [endT S.size])[i] = ts[i] := List.getElem_append_left hlast
          rw [hget] at t0 t1 t2 t3 t4
          rw [List.drop_eq_getElem_cons hlast] at hu1
          obtain ⟨a1, a2, a3, a4, a5, ⟨nn, a6⟩, a7, a8⟩ := cov_tok hu1 hu2 hsz hp
          have HU2 : Hid (i + 1 ≤ ts.length → scanF (S.size + 1) ts[i].en ((bys S).drop ts[i].en) = .ok (ts.drop (i + 1)) ∧ ((bys S).drop ts[i].en).length < S.size + 1) := fun _ => ⟨a7, a8⟩
          have HSg := Lib.hid fun W => HSc.out (S.extract p ts[i].at_) W
          have HSo := Lib.hid fun W => HSc.out (S.extract ts[i].at_ ts[i].en) W
          rw [a5] at HSg
          rw [a6] at HSo
          generalize ts[i] = tt at *
          obtain ⟨⟨kd, it, tx⟩, at_, en⟩ := tt
          dsimp only at *
          have b1 : ¬ ((at_ : Int) < (p : Int)) := by omega
          have b2 : ¬ ((S.size : Int) < (en : Int)) := by omega
          have b3 : (p : Int) ≤ (at_ : Int) := by omega
          have b4 : (at_ : Int) ≤ (en : Int) := by omega
          have b5 : (en : Int) ≤ (S.size : Int) := by omega
          have b6 : (at_ : Int) ≤ (S.size : Int) := by omega
          have b7 : (0 : Int) ≤ (p : Int) := by omega
          have b8 : (0 : Int) ≤ (at_ : Int) := by omega
          have b9 : (kd != 0) = true := by rw [bne_iff_ne]; omega
          have b10 : (kd == 0) = false := by rw [beq_eq_false_iff_ne]; omega
          obtain ⟨tV, htV⟩ : ∃ tV : ByteArray, tV = ⟨tx.toArray⟩ := ⟨_, rfl⟩
          rw [← htV] at t2
          have HtV := Lib.hid htV
          clear hu1 hu2 a1 a2 a4 a5 a6 a7 a8 hget ho htV HU
          go_upto_region 10 with (fail)
          have hn4 := Blk.new wr 28 #[.int .i64 kd, .int .i64 it, .string tV, .int .i64 (at_ : Int), .int .i64 (en : Int)]
          have HO4 := Lib.hid (own_below HO.out ((Below.refl wr.heap.size wr).alloc (Nat.le_refl _) (.cells #[.int .i64 kd, .int .i64 it, .string tV, .int .i64 (at_ : Int), .int .i64 (en : Int)] 28)))
          have HB4 := Lib.hid (HBl.out.alloc hzr (.cells #[.int .i64 kd, .int .i64 it, .string tV, .int .i64 (at_ : Int), .int .i64 (en : Int)] 28))
          have hz4 : wr.heap.size < (wr.alloc (.cells #[.int .i64 kd, .int .i64 it, .string tV, .int .i64 (at_ : Int), .int .i64 (en : Int)] 28)).heap.size := by simp
          generalize wr.alloc (.cells #[.int .i64 kd, .int .i64 it, .string tV, .int .i64 (at_ : Int), .int .i64 (en : Int)] 28) = w4 at *
          have HN4 := Lib.hid hn4
          obtain ⟨n0, n1, n2, n3, n4⟩ := tok_cells hn4
          clear hn4 t0 t1 t2 t3 t4 hg3
          go_wp2_with fail
          refine (HSg.out w4).mono ?_
          rintro e w5 ⟨hb5, v5, rfl, ho5⟩
          obtain ⟨A5, c5, rfl⟩ := own_n ho5
          have hn5 := HN4.out.below hb5 hz4
          have HO5 := Lib.hid (own_below HO4.out hb5)
          have HB5 := Lib.hid (HB4.out.trans (hb5.mono HB4.out.size))
          have hz5 : wr.heap.size < w5.heap.size := by have := hb5.size; omega
          have HN5 := Lib.hid hn5
          clear n0 n1 n2 n3 n4
          obtain ⟨n0, n1, n2, n3, n4⟩ := tok_cells hn5
          clear hn5 hb5 ho5
          simp only [List.length_nil] at *
          go_wp2_with fail
          refine (HSo.out w5).mono ?_
          rintro e w6 ⟨hb6, v6, rfl, ho6⟩
          obtain ⟨g6, c6, rfl, -, -⟩ := ho6.form (by simp)
          have hn6 := HN5.out.below hb6 hz5
          have HO6 := Lib.hid (own_below HO5.out hb6)
          have HB6 := Lib.hid (HB5.out.trans (hb6.mono HB5.out.size))
          have hz6 : wr.heap.size < w6.heap.size := by have := hb6.size; omega
          have HN6 := Lib.hid hn6
          clear n0 n1 n2 n3 n4
          obtain ⟨n0, n1, n2, n3, n4⟩ := tok_cells hn6
          obtain ⟨s0, s1, s2, s3, s4⟩ := toks_cells ho6 0 (by simp)
          have hg6 := (own_lt ho6 g6 rfl).2
          simp at s0 s1 s2 s3 s4
          clear hn6 hb6 ho6
          simp only [List.length_nil, List.length_cons] at *
          go_wp2_with fail
          rw [← HtV.out] at s2
          have hS0 : w6.drew.cell? ⟨wr.heap.size, 0, none⟩ = some (.int .i64 kd) ∧ w6.drew.cell? ⟨wr.heap.size, 1, none⟩ = some (.int .i64 it) ∧ w6.drew.cell? ⟨wr.heap.size, 2, none⟩ = some (.string tV) ∧ w6.drew.cell? ⟨wr.heap.size, 3, none⟩ = some (.int .i64 (at_ : Int)) ∧ w6.drew.cell? ⟨wr.heap.size, 4, none⟩ = some (.int .i64 (en : Int)) ∧ w6.drew.cell? ⟨g6, 0, none⟩ = some (.int .i64 kd) ∧ w6.drew.cell? ⟨g6, 1, none⟩ = some (.int .i64 it) ∧ w6.drew.cell? ⟨g6, 2, none⟩ = some (.string tV) ∧ w6.drew.cell? ⟨g6, 3, none⟩ = some (.int .i64 0) ∧ w6.drew.cell? ⟨g6, 4, none⟩ = some (.int .i64 (nn : Int)) ∧ Below w6.heap.size w6 w6.drew := ⟨n0, n1, n2, n3, n4, s0, s1, s2, s3, s4, (Below.refl _ _).drew⟩
          have HK : Hid (∀ w' w'' : World, (w'.cell? ⟨wr.heap.size, 0, none⟩ = some (.int .i64 kd) ∧ w'.cell? ⟨wr.heap.size, 1, none⟩ = some (.int .i64 it) ∧ w'.cell? ⟨wr.heap.size, 2, none⟩ = some (.string tV) ∧ w'.cell? ⟨wr.heap.size, 3, none⟩ = some (.int .i64 (at_ : Int)) ∧ w'.cell? ⟨wr.heap.size, 4, none⟩ = some (.int .i64 (en : Int)) ∧ w'.cell? ⟨g6, 0, none⟩ = some (.int .i64 kd) ∧ w'.cell? ⟨g6, 1, none⟩ = some (.int .i64 it) ∧ w'.cell? ⟨g6, 2, none⟩ = some (.string tV) ∧ w'.cell? ⟨g6, 3, none⟩ = some (.int .i64 0) ∧ w'.cell? ⟨g6, 4, none⟩ = some (.int .i64 (nn : Int)) ∧ Below w6.heap.size w6 w') → Below w'.heap.size w' w'' → (w''.cell? ⟨wr.heap.size, 0, none⟩ = some (.int .i64 kd) ∧ w''.cell? ⟨wr.heap.size, 1, none⟩ = some (.int .i64 it) ∧ w''.cell? ⟨wr.heap.size, 2, none⟩ = some (.string tV) ∧ w''.cell? ⟨wr.heap.size, 3, none⟩ = some (.int .i64 (at_ : Int)) ∧ w''.cell? ⟨wr.heap.size, 4, none⟩ = some (.int .i64 (en : Int)) ∧ w''.cell? ⟨g6, 0, none⟩ = some (.int .i64 kd) ∧ w''.cell? ⟨g6, 1, none⟩ = some (.int .i64 it) ∧ w''.cell? ⟨g6, 2, none⟩ = some (.string tV) ∧ w''.cell? ⟨g6, 3, none⟩ = some (.int .i64 0) ∧ w''.cell? ⟨g6, 4, none⟩ = some (.int .i64 (nn : Int)) ∧ Below w6.heap.size w6 w'')) := by
            rintro w' w'' ⟨a0, a1, a2, a3, a4, a5, a6, a7, a8, a9, a10⟩ hb
            have l1 := Nat.lt_of_lt_of_le hz6 a10.size
            have l2 := Nat.lt_of_lt_of_le hg6 a10.size
            exact ⟨(hb.cell (p := ⟨wr.heap.size, 0, none⟩) l1).trans a0, (hb.cell (p := ⟨wr.heap.size, 1, none⟩) l1).trans a1, (hb.cell (p := ⟨wr.heap.size, 2, none⟩) l1).trans a2, (hb.cell (p := ⟨wr.heap.size, 3, none⟩) l1).trans a3, (hb.cell (p := ⟨wr.heap.size, 4, none⟩) l1).trans a4, (hb.cell (p := ⟨g6, 0, none⟩) l2).trans a5, (hb.cell (p := ⟨g6, 1, none⟩) l2).trans a6, (hb.cell (p := ⟨g6, 2, none⟩) l2).trans a7, (hb.cell (p := ⟨g6, 3, none⟩) l2).trans a8, (hb.cell (p := ⟨g6, 4, none⟩) l2).trans a9, a10.trans (hb.mono a10.size)⟩
          have HBa := Lib.hid fun a e W => bare_any kd it a e tV W
          unfold tokV at HBa
          have c01 : decide ((0 : Int) < 0) = false := by decide
          have c11 : ((1 : Int) != 1) = false := by decide
          clear n0 n1 n2 n3 n4 s0 s1 s2 s3 s4
          go_region_held3 (fun w' => w'.cell? ⟨wr.heap.size, 0, none⟩ = some (.int .i64 kd) ∧ w'.cell? ⟨wr.heap.size, 1, none⟩ = some (.int .i64 it) ∧ w'.cell? ⟨wr.heap.size, 2, none⟩ = some (.string tV) ∧ w'.cell? ⟨wr.heap.size, 3, none⟩ = some (.int .i64 (at_ : Int)) ∧ w'.cell? ⟨wr.heap.size, 4, none⟩ = some (.int .i64 (en : Int)) ∧ w'.cell? ⟨g6, 0, none⟩ = some (.int .i64 kd) ∧ w'.cell? ⟨g6, 1, none⟩ = some (.int .i64 it) ∧ w'.cell? ⟨g6, 2, none⟩ = some (.string tV) ∧ w'.cell? ⟨g6, 3, none⟩ = some (.int .i64 0) ∧ w'.cell? ⟨g6, 4, none⟩ = some (.int .i64 (nn : Int)) ∧ Below w6.heap.size w6 w')
            (first | exact hS0 | (exact HK.out _ _ (by first | assumption | exact hS0 | exact ⟨by assumption, by assumption, by assumption, by assumption, by assumption, by assumption, by assumption, by assumption, by assumption, by assumption, by assumption⟩) (by assumption)))
            (first | (go_at_call 10; refine (HBa.out _ _ _).mono ?_; rintro e w7 ⟨rfl, hb7⟩))
          have hbx := (Below.refl w6.heap.size w6).drew.trans (‹Below w6.drew.heap.size w6.drew _›)
          have hb8 := hbx.trans (hb7.mono hbx.size)
          have hn7 := HN6.out.below hb8 hz6
          have HO7 := Lib.hid (own_below HO6.out hb8)
          have HB7 := Lib.hid (HB6.out.trans (hb8.mono HB6.out.size))
          have n4 := (tok_cells hn7).2.2.2.2
          clear hbx hb7 hb8 hn7
          go_wp2_with fail
          exact ⟨⟨trivial, i + 1, en, rfl, rfl, by omega, a3, HU2.out, HO7.out, HB7.out⟩, by simp [intOf]; omega⟩
        · have hii : i = ts.length := by omega
          have hget : (ts ++ [endT S.size])[i] = endT S.size := by subst hii; simp
          rw [hget] at t0 t1 t2 t3 t4
          have hdn : ts.drop i = [] := List.drop_eq_nil_of_le (by omega)
          rw [hdn] at hu1
          clear hdn
          obtain ⟨a1, a2⟩ := cov_end hu1 hu2 hsz hp
          have HSg := Lib.hid fun W => HSc.out (S.extract p S.size) W
          have HSo := Lib.hid fun W => HSc.out ByteArray.empty W
          rw [a1] at HSg
          rw [show scan (bys ByteArray.empty) = .ok [] from rfl] at HSo
          unfold endT at t0 t1 t2 t3 t4
          dsimp only at t0 t1 t2 t3 t4
          have b1 : ¬ ((S.size : Int) < (p : Int)) := by omega
          have b2 : ¬ ((S.size : Int) < (S.size : Int)) := by omega
          have b3 : (p : Int) ≤ (S.size : Int) := by omega
          have b4 : (S.size : Int) ≤ (S.size : Int) := by omega
          have b7 : (0 : Int) ≤ (p : Int) := by omega
          have b8 : (0 : Int) ≤ (S.size : Int) := by omega
          have HII := Lib.hid hii
          clear hu1 hu2 a1 a2 hget ho HU hii
          go_upto_region 10 with (fail)
          have hn4 := Blk.new wr 28 #[.int .i64 0, .int .i64 0, .string ⟨#[]⟩, .int .i64 (S.size : Int), .int .i64 (S.size : Int)]
          have HO4 := Lib.hid (own_below HO.out ((Below.refl wr.heap.size wr).alloc (Nat.le_refl _) (.cells #[.int .i64 0, .int .i64 0, .string ⟨#[]⟩, .int .i64 (S.size : Int), .int .i64 (S.size : Int)] 28)))
          have HB4 := Lib.hid (HBl.out.alloc hzr (.cells #[.int .i64 0, .int .i64 0, .string ⟨#[]⟩, .int .i64 (S.size : Int), .int .i64 (S.size : Int)] 28))
          have hz4 : wr.heap.size < (wr.alloc (.cells #[.int .i64 0, .int .i64 0, .string ⟨#[]⟩, .int .i64 (S.size : Int), .int .i64 (S.size : Int)] 28)).heap.size := by simp
          generalize wr.alloc (.cells #[.int .i64 0, .int .i64 0, .string ⟨#[]⟩, .int .i64 (S.size : Int), .int .i64 (S.size : Int)] 28) = w4 at *
          have HN4 := Lib.hid hn4
          obtain ⟨n0, n1, n2, n3, n4⟩ := tok_cells hn4
          clear hn4 t0 t1 t2 t3 t4 hg3
          go_wp2_with fail
          refine (HSg.out w4).mono ?_
          rintro e w5 ⟨hb5, v5, rfl, ho5⟩
          obtain ⟨A5, c5, rfl⟩ := own_n ho5
          have hn5 := HN4.out.below hb5 hz4
          have HO5 := Lib.hid (own_below HO4.out hb5)
          have HB5 := Lib.hid (HB4.out.trans (hb5.mono HB4.out.size))
          have hz5 : wr.heap.size < w5.heap.size := by have := hb5.size; omega
          have HN5 := Lib.hid hn5
          clear n0 n1 n2 n3 n4
          obtain ⟨n0, n1, n2, n3, n4⟩ := tok_cells hn5
          clear hn5 hb5 ho5
          simp only [List.length_nil] at *
          go_wp2_with fail
          refine (HSo.out w5).mono ?_
          rintro e w6 ⟨hb6, v6, rfl, ho6⟩
          obtain ⟨A6, c6, rfl⟩ := own_n ho6
          have hn6 := HN5.out.below hb6 hz5
          have HO6 := Lib.hid (own_below HO5.out hb6)
          have HB6 := Lib.hid (HB5.out.trans (hb6.mono HB5.out.size))
          have hz6 : wr.heap.size < w6.heap.size := by have := hb6.size; omega
          clear n0 n1 n2 n3 n4
          obtain ⟨n0, n1, n2, n3, n4⟩ := tok_cells hn6
          clear hn6 hb6 ho6
          simp only [List.length_nil] at *
          have c01 : decide ((0 : Int) < 0) = false := by decide
          have c00 : ((0 : Int) != 0) = false := by decide
          go_upto_region 14 with (fail)
          go_quiet (fail)
          go_wp2_with fail
          exact ⟨⟨trivial, i + 1, S.size, rfl, rfl, by omega, Nat.le_refl _, fun h => absurd h (by have := HII.out; omega), own_below HO6.out (below_drewN (Below.refl _ _) _), HB6.out.trans (below_drewN (Below.refl _ _) _)⟩, by simp [intOf]; omega⟩
      · have hi2 : ¬ (i : Int) < (ts.length : Int) + 1 := by omega
        go_wp2_with fail
        go_ret
        exact ⟨rfl, HBl.out⟩
end Go.Proofs.YtenhaohooknkfaaDoor
