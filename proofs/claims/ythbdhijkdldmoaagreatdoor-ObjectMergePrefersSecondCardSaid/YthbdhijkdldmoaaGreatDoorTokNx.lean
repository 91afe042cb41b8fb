/- The walk of next and Next. The walk of Next. -/
import Derived.Test.YthbdhijkdldmoaaGreatDoorTokOne
namespace Go.Proofs.YthbdhijkdldmoaaGreatDoor
open Go.RowKit Tk
theorem integer_err {w : Tk.Src} {e : Int} (h : integer w = .error e) : e ≠ 0 := by
  unfold integer at h
  split at h
  · cases h; decide
  · split at h
    · cases h; decide
    · cases h
theorem reference_err {w : Tk.Src} {e : Int} (h : reference w = .error e) : e ≠ 0 := by
  unfold reference at h
  split at h
  · cases h; decide
  · split at h
    · cases h; decide
    · cases h
theorem word_err {w : Tk.Src} {e : Int} (h : word w = .error e) : e ≠ 0 := by
  rw [word_of] at h
  split at h
  · cases h; decide
  · split at h
    · split at h
      · cases h; decide
      · cases h
    · cases h; decide
theorem limited_err {l : Tk.Src} {m n : Nat} {e : Int} (h : limited l m n = .error e) : e ≠ 0 := by
  unfold limited at h
  split at h
  · cases h; decide
  · cases h
theorem textF_err : ∀ (f d : Nat) (l acc : Tk.Src) (n : Nat) (e : Int), textF f d l acc n = .error e → e ≠ 0
  | 0, _, _, _, _, _, h => by cases h; decide
  | _ + 1, _, [], _, _, _, h => by cases h; decide
  | f + 1, d, x :: r, acc, n, e, h => by
    rw [textF] at h
    split at h
    · split at h
      · rename_i er he; cases h; exact esc_err he
      · exact textF_err _ _ _ _ _ _ h
    · split at h
      · split at h
        · cases h; decide
        · exact textF_err _ _ _ _ _ _ h
      · split at h
        · split at h
          · exact limited_err h
          · exact textF_err _ _ _ _ _ _ h
        · exact textF_err _ _ _ _ _ _ h
theorem hexL_err : ∀ (l : Tk.Src) (hf : UInt8) (odd : Bool) (acc : Tk.Src) (n : Nat) (e : Int), hexL hf odd l acc n = .error e → e ≠ 0
  | [], _, _, _, _, _, h => by cases h; decide
  | x :: r, hf, odd, acc, n, e, h => by
    rw [hexL] at h
    split at h
    · exact hexL_err _ _ _ _ _ _ h
    · split at h
      · exact limited_err h
      · split at h
        · cases h; decide
        · split at h
          · exact hexL_err _ _ _ _ _ _ h
          · exact hexL_err _ _ _ _ _ _ h
theorem nameF_err : ∀ (f : Nat) (l acc : Tk.Src) (e : Int), nameF f l acc = .error e → e ≠ 0
  | 0, _, _, _, h => by cases h; decide
  | _ + 1, [], _, _, h => by cases h
  | f + 1, x :: r, acc, e, h => by
    rw [nameF] at h
    split at h
    · split at h
      · cases h; decide
      · split at h
        · cases h; decide
        · exact nameF_err _ _ _ _ h
    · split at h
      · cases h; decide
      · exact nameF_err _ _ _ _ h
theorem nameW_err {w : Tk.Src} {e : Int} (h : nameW w = .error e) : e ≠ 0 := by
  unfold nameW at h
  split at h
  · rename_i er he; cases h; exact nameF_err _ _ _ _ he
  · split at h
    · cases h; decide
    · split at h
      · cases h; decide
      · cases h
theorem mapInt_err {k : Int} {n : Nat} {x : Except Int Int} {e : Int} (h : mapInt k n x = .error e) : x = .error e := by
  cases x with
  | error c => cases h; rfl
  | ok v => cases h
theorem mapTxt_err {k : Int} {n : Nat} {x : Except Int Tk.Src} {e : Int} (h : mapTxt k n x = .error e) : x = .error e := by
  cases x with
  | error c => cases h; rfl
  | ok v => cases h
theorem mapRes_err {k : Int} {x : Res Tk.Src} {e : Int} (h : mapRes k x = .error e) : x = .error e := by
  match x, h with
  | .error c, h => cases h; rfl
  | .ok (v, n), h => cases h
theorem one_err {l : Tk.Src} {e : Int} (h : one l = .error e) : e ≠ 0 := by
  cases l with
  | nil => cases h; decide
  | cons x r =>
    simp only [one] at h
    repeat' split at h
    all_goals first
      | exact integer_err (mapInt_err h)
      | exact word_err (mapTxt_err h)
      | exact nameW_err (mapTxt_err h)
      | exact reference_err (mapInt_err h)
      | exact textF_err _ _ _ _ _ _ (mapRes_err h)
      | exact hexL_err _ _ _ _ _ _ (mapRes_err h)
      | (cases h; done)
      | (cases h; decide)
/-- What next answers, behind white space and comments. -/
def nextW (q : Nat) (l : Tk.Src) : Value := match l with
  | [] => .tuple #[tokV 0 0 ⟨#[]⟩ q q, .int .i64 q, .int .i64 0]
  | x :: r => match one (x :: r) with
    | .error e => .tuple #[tokV 0 0 ⟨#[]⟩ 0 0, .int .i64 q, .int .i64 e]
    | .ok (t, n) => .tuple #[tokV t.kind t.int ⟨t.text.toArray⟩ q (q + n : Nat), .int .i64 q, .int .i64 0]
def nextV (p : Nat) (l : Tk.Src) : Value := nextW (p + skipN false l) (l.drop (skipN false l))
theorem nextW_one {q : Nat} {S : ByteArray} (h : q < S.size) : nextW q ((bys S).drop q) = match one ((bys S).drop q) with
    | .error e => .tuple #[tokV 0 0 ⟨#[]⟩ 0 0, .int .i64 q, .int .i64 e]
    | .ok (t, n) => .tuple #[tokV t.kind t.int ⟨t.text.toArray⟩ q (q + n : Nat), .int .i64 q, .int .i64 0] := by
  rw [drop_byte S q h]; rfl
theorem tok_put {W : World} {T : Nat} {v0 v1 v2 v3 v4 : Value} (h : Blk W T 53 #[v0, v1, v2, v3, v4]) (u0 u1 u2 u3 u4 : Value) : Blk (((((W.setCell ⟨T, 0, none⟩ u0).setCell ⟨T, 1, none⟩ u1).setCell ⟨T, 2, none⟩ u2).setCell ⟨T, 3, none⟩ u3).setCell ⟨T, 4, none⟩ u4) T 53 #[u0, u1, u2, u3, u4] := by
  have := ((((Blk.put h 0 u0).put 1 u1).put 2 u2).put 3 u3).put 4 u4
  simpa using this
theorem tok_below {B : Nat} {w W : World} {T : Nat} (h : Below B w W) (hT : B ≤ T) (u0 u1 u2 u3 u4 : Value) : Below B w (((((W.setCell ⟨T, 0, none⟩ u0).setCell ⟨T, 1, none⟩ u1).setCell ⟨T, 2, none⟩ u2).setCell ⟨T, 3, none⟩ u3).setCell ⟨T, 4, none⟩ u4) :=
  ((((h.setCell (p := ⟨T, 0, none⟩) hT u0).setCell (p := ⟨T, 1, none⟩) hT u1).setCell (p := ⟨T, 2, none⟩) hT u2).setCell (p := ⟨T, 3, none⟩) hT u3).setCell (p := ⟨T, 4, none⟩) hT u4
theorem tok_cells {W : World} {T : Nat} {k i a e : Int} {t : ByteArray} (h : Blk W T 53 #[.int .i64 k, .int .i64 i, .string t, .int .i64 a, .int .i64 e]) : W.cell? ⟨T, 0, none⟩ = some (.int .i64 k) ∧ W.cell? ⟨T, 1, none⟩ = some (.int .i64 i) ∧ W.cell? ⟨T, 2, none⟩ = some (.string t) ∧ W.cell? ⟨T, 3, none⟩ = some (.int .i64 a) ∧ W.cell? ⟨T, 4, none⟩ = some (.int .i64 e) := by
  refine ⟨?_, ?_, ?_, ?_, ?_⟩
  · have := Blk.cell h 0; simpa using this
  · have := Blk.cell h 1; simpa using this
  · have := Blk.cell h 2; simpa using this
  · have := Blk.cell h 3; simpa using this
  · have := Blk.cell h 4; simpa using this
set_option maxRecDepth 100000 in
set_option maxHeartbeats 4000000 in
theorem next_any (S : ByteArray) (p : Nat) (w : World) (hp : p ≤ S.size) (hs : S.size ≤ 100000) :
    Calls Tryz.prog 68 #[.string S, .int .i64 p] w fun e w' => e = .returned (nextV p ((bys S).drop p)) ∧ Below w.heap.size w w' := by
  have hb0 : Blk ((w.alloc (.cells #[.int .i64 0, .int .i64 0, .string ⟨#[]⟩, .int .i64 0, .int .i64 0] 53)).alloc (.cells #[.string S, .int .i64 p] 116)) w.heap.size 53 #[.int .i64 0, .int .i64 0, .string ⟨#[]⟩, .int .i64 0, .int .i64 0] := Blk.alloc (Blk.new w _ _) _
  have hc0 : Cu ((w.alloc (.cells #[.int .i64 0, .int .i64 0, .string ⟨#[]⟩, .int .i64 0, .int .i64 0] 53)).alloc (.cells #[.string S, .int .i64 p] 116)) (w.heap.size + 1) S p := by
    have := Blk.new (w.alloc (.cells #[.int .i64 0, .int .i64 0, .string ⟨#[]⟩, .int .i64 0, .int .i64 0] 53)) 116 #[.string S, .int .i64 p]
    simpa [Cu] using this
  have hf0 := ((Below.refl w.heap.size w).alloc (Nat.le_refl _) (.cells #[.int .i64 0, .int .i64 0, .string ⟨#[]⟩, .int .i64 0, .int .i64 0] 53)).alloc (by simp) (.cells #[.string S, .int .i64 p] 116)
  have hz0 : ((w.alloc (.cells #[.int .i64 0, .int .i64 0, .string ⟨#[]⟩, .int .i64 0, .int .i64 0] 53)).alloc (.cells #[.string S, .int .i64 p] 116)).heap.size = w.heap.size + 2 := by simp
  have HB0 := Lib.hid hb0
  have HC0 := Lib.hid hc0
  have HF0 := Lib.hid hf0
  have HZ0 := Lib.hid hz0
  have hsk := skip_le false ((bys S).drop p)
  rw [List.length_drop, bys_len] at hsk
  have HV : Hid (nextV p ((bys S).drop p) = nextW (p + skipN false ((bys S).drop p)) ((bys S).drop (p + skipN false ((bys S).drop p)))) := by
    unfold Hid nextV
    rw [List.drop_drop]
  have HNx := Lib.hid fun W h => skip_any S (w.heap.size + 1) p W h hp (by omega)
  generalize nextV p ((bys S).drop p) = V at *
  generalize hq : p + skipN false ((bys S).drop p) = q at *
  have hq1 : q ≤ S.size := by omega
  clear hb0 hc0 hf0 hz0 hsk hq
  go_enter Tryz.func68, Tryz.ntmps68
  go_wp2_with fail
  generalize (w.alloc (.cells #[.int .i64 0, .int .i64 0, .string ⟨#[]⟩, .int .i64 0, .int .i64 0] 53)).alloc (.cells #[.string S, .int .i64 p] 116) = w0 at *
  refine (HNx.out _ HC0.out).mono ?_
  rintro e w2 ⟨rfl, hc2, hf2⟩
  have hb2 := hf2.blk HB0.out (by have := HZ0.out; omega) (by omega)
  have HF2 := Lib.hid (HF0.out.trans ((hf2.weak (S' := fun k => k = w.heap.size + 1) (Nat.le_refl _) fun _ _ e => e).below (B := w.heap.size) (by have := HZ0.out; omega) fun k e => by omega))
  have HC2 := Lib.hid hc2
  have HB2 := Lib.hid hb2
  have HZ2 := Lib.hid (show w.heap.size + 2 ≤ w2.heap.size by have := hf2.size; have := HZ0.out; omega)
  obtain ⟨c0, c1, cf, cl⟩ := hc2.cells
  clear hc2 hb2 hf2
  obtain ⟨t0, t1, t2, t3, t4⟩ := tok_cells HB2.out
  have f0 := Blk.frozen HB2.out 0
  have f1 := Blk.frozen HB2.out 1
  have f2 := Blk.frozen HB2.out 2
  have f3 := Blk.frozen HB2.out 3
  have f4 := Blk.frozen HB2.out 4
  have tl : w.heap.size < w2.heap.size := by omega
  by_cases hqs : q = S.size
  · have qe : ((q : Int) == (S.size : Int)) = true := by rw [hqs]; simp
    have HV2 : Hid (V = .tuple #[tokV 0 0 ⟨#[]⟩ q q, .int .i64 q, .int .i64 0]) := by
      unfold Hid
      rw [HV.out, List.drop_eq_nil_of_le (by rw [bys_len]; omega)]; rfl
    clear hqs
    go_wp2_with fail
    have hbz := tok_put HB2.out (.int .i64 0) (.int .i64 0) (.string ⟨#[]⟩) (.int .i64 q) (.int .i64 q)
    have hlz := tok_below HF2.out (Nat.le_refl _) (.int .i64 0) (.int .i64 0) (.string ⟨#[]⟩) (.int .i64 q) (.int .i64 q)
    refine bodyPost_ret (v := .tuple #[tokV 0 0 ⟨#[]⟩ q q, .int .i64 q, .int .i64 0]) ?_ rfl ?_
    · obtain ⟨z0, z1, z2, z3, z4⟩ := tok_cells hbz
      clear hbz
      generalize World.setCell _ _ _ = W at *
      simp [results, Tryz.results68, go_sem, tokV, z0, z1, z2, z3, z4]
    · exact ⟨by rw [HV2.out], hlz⟩
  · have qe : ((q : Int) == (S.size : Int)) = false := by rw [beq_eq_false_iff_ne]; omega
    have hqlt : q < S.size := by omega
    have HO := Lib.hid (one_any S (w.heap.size + 1) q w2 HC2.out hqlt hs)
    have HV2 : Hid (V = match one ((bys S).drop q) with
      | .error e => .tuple #[tokV 0 0 ⟨#[]⟩ 0 0, .int .i64 q, .int .i64 e]
      | .ok (t, n) => .tuple #[tokV t.kind t.int ⟨t.text.toArray⟩ q (q + n : Nat), .int .i64 q, .int .i64 0]) := by
      unfold Hid
      rw [HV.out]; exact nextW_one hqlt
    have HEr : Hid (∀ e, one ((bys S).drop q) = .error e → e ≠ 0) := fun e h => one_err h
    have HLn : Hid (∀ t n, one ((bys S).drop q) = .ok (t, n) → q + n ≤ S.size) := fun t n h => by
      obtain ⟨a, b, ho⟩ := one_own h
      have := congrArg List.length ho.eq
      rw [List.length_drop, bys_len, List.length_append, ← ho.len] at this; omega
    unfold OnePost at HO
    cases hone : one ((bys S).drop q) with
    | error er =>
      rw [hone] at HO HV2
      have her : ((er : Int) != 0) = true := by simpa using HEr.out er hone
      clear hone hqs HEr HLn
      go_wp2_with fail
      refine HO.out.mono ?_
      rintro e w3 ⟨hf3, k, i, t, rfl⟩
      have hb3 := hf3.blk HB2.out tl (by omega)
      have HB3 := Lib.hid hb3
      have HF3 := Lib.hid (HF2.out.trans ((hf3.weak (S' := fun k => k = w.heap.size + 1) (Nat.le_refl _) fun _ _ e => e).below (B := w.heap.size) (by omega) fun k e => by omega))
      have tl3 : w.heap.size < w3.heap.size := by have := hf3.size; omega
      clear t0 t1 t2 t3 t4 f0 f1 f2 f3 f4 hf3 c0 c1 cf cl
      unfold tokV
      go_upto_region 7 with (fail)
      have hb4 := hb3.alloc (.cells #[.int .i64 k, .int .i64 i, .string t, .int .i64 0, .int .i64 0] 53)
      have hl4 := HF3.out.alloc HF3.out.size (.cells #[.int .i64 k, .int .i64 i, .string t, .int .i64 0, .int .i64 0] 53)
      have tl4 : w.heap.size < (w3.alloc (.cells #[.int .i64 k, .int .i64 i, .string t, .int .i64 0, .int .i64 0] 53)).heap.size := by simp; omega
      generalize w3.alloc (.cells #[.int .i64 k, .int .i64 i, .string t, .int .i64 0, .int .i64 0] 53) = w4 at *
      have HB4 := Lib.hid hb4
      have HL4 := Lib.hid hl4
      obtain ⟨t0, t1, t2, t3, t4⟩ := tok_cells hb4
      have f0 := Blk.frozen hb4 0
      have f1 := Blk.frozen hb4 1
      have f2 := Blk.frozen hb4 2
      have f3 := Blk.frozen hb4 3
      have f4 := Blk.frozen hb4 4
      clear hb3 hb4 hl4
      go_wp2_with fail
      have hbz := tok_put HB4.out (.int .i64 0) (.int .i64 0) (.string ⟨#[]⟩) (.int .i64 0) (.int .i64 0)
      have hlz := tok_below HL4.out (Nat.le_refl _) (.int .i64 0) (.int .i64 0) (.string ⟨#[]⟩) (.int .i64 0) (.int .i64 0)
      refine bodyPost_ret (v := .tuple #[tokV 0 0 ⟨#[]⟩ 0 0, .int .i64 q, .int .i64 er]) ?_ rfl ?_
      · obtain ⟨z0, z1, z2, z3, z4⟩ := tok_cells hbz
        clear hbz
        generalize World.setCell _ _ _ = W at *
        simp [results, Tryz.results68, go_sem, tokV, z0, z1, z2, z3, z4]
      · exact ⟨by rw [HV2.out], hlz⟩
    | ok tn =>
      obtain ⟨tk, n⟩ := tn
      have hqn := HLn.out _ _ hone
      rw [hone] at HO HV2
      dsimp only at HO HV2
      clear hone hqs HEr HLn
      obtain ⟨tV, htV⟩ : ∃ tV : ByteArray, tV = ⟨tk.text.toArray⟩ := ⟨_, rfl⟩
      rw [← htV] at HO HV2
      generalize tk.kind = k at *
      generalize tk.int = i at *
      clear htV
      go_wp2_with fail
      refine HO.out.mono ?_
      rintro e w3 ⟨hf3, rfl, hcu⟩
      have hb3 := hf3.blk HB2.out tl (by omega)
      have HF3 := Lib.hid (HF2.out.trans ((hf3.weak (S' := fun k => k = w.heap.size + 1) (Nat.le_refl _) fun _ _ e => e).below (B := w.heap.size) (by omega) fun k e => by omega))
      have tl3 : w.heap.size < w3.heap.size := by have := hf3.size; omega
      clear t0 t1 t2 t3 t4 f0 f1 f2 f3 f4 hf3 c0 c1 cf cl tl
      unfold tokV
      go_upto_region 7 with (fail)
      have hb4 := hb3.alloc (.cells #[.int .i64 k, .int .i64 i, .string tV, .int .i64 0, .int .i64 0] 53)
      have hn4 := Blk.new w3 53 #[.int .i64 k, .int .i64 i, .string tV, .int .i64 0, .int .i64 0]
      have hc4 : Cu (w3.alloc (.cells #[.int .i64 k, .int .i64 i, .string tV, .int .i64 0, .int .i64 0] 53)) _ _ _ := Blk.alloc hcu (.cells #[.int .i64 k, .int .i64 i, .string tV, .int .i64 0, .int .i64 0] 53)
      have hl4 := HF3.out.alloc HF3.out.size (.cells #[.int .i64 k, .int .i64 i, .string tV, .int .i64 0, .int .i64 0] 53)
      have tl4 : w3.heap.size < (w3.alloc (.cells #[.int .i64 k, .int .i64 i, .string tV, .int .i64 0, .int .i64 0] 53)).heap.size := by simp
      generalize w3.alloc (.cells #[.int .i64 k, .int .i64 i, .string tV, .int .i64 0, .int .i64 0] 53) = w4 at *
      have HB4 := Lib.hid hb4
      have HN4 := Lib.hid hn4
      have HC4 := Lib.hid hc4
      have HL4 := Lib.hid hl4
      have hlt3 := hcu.cells.2.2.2
      clear hb3 hcu hb4 hn4 hc4 hl4
      go_upto_region 9 with (fail)
      have n0 := (tok_cells HN4.out).1
      have n1 := (tok_cells HN4.out).2.1
      have n2 := (tok_cells HN4.out).2.2.1
      have n3 := (tok_cells HN4.out).2.2.2.1
      have n4 := (tok_cells HN4.out).2.2.2.2
      have g3 := Blk.frozen HN4.out 3
      have g4 := Blk.frozen HN4.out 4
      obtain ⟨c0, c1, cf, cl⟩ := HC4.out.cells
      have hne1 : ¬ w.heap.size + 1 = w3.heap.size := by omega
      go_region
      go_upto_region 10 with (fail)
      have hb5 : Blk ((w4.setCell ⟨w3.heap.size, 3, none⟩ (.int .i64 (q : Int))).setCell ⟨w3.heap.size, 4, none⟩ (.int .i64 ((q : Int) + (n : Int)))).drew w.heap.size _ _ := (HB4.out.far (p := ⟨w3.heap.size, 3, none⟩) (by show w.heap.size ≠ w3.heap.size; omega) (.int .i64 (q : Int))).far (p := ⟨w3.heap.size, 4, none⟩) (by show w.heap.size ≠ w3.heap.size; omega) (.int .i64 ((q : Int) + (n : Int)))
      have hn5 : Blk ((w4.setCell ⟨w3.heap.size, 3, none⟩ (.int .i64 (q : Int))).setCell ⟨w3.heap.size, 4, none⟩ (.int .i64 ((q : Int) + (n : Int)))).drew w3.heap.size 53 #[.int .i64 k, .int .i64 i, .string tV, .int .i64 q, .int .i64 ((q : Int) + (n : Int))] := by
        have := (Blk.put HN4.out 3 (.int .i64 (q : Int))).put 4 (.int .i64 ((q : Int) + (n : Int)))
        simp at this
        exact this
      have hl5 : Below w.heap.size w ((w4.setCell ⟨w3.heap.size, 3, none⟩ (.int .i64 (q : Int))).setCell ⟨w3.heap.size, 4, none⟩ (.int .i64 ((q : Int) + (n : Int)))).drew := ((HL4.out.setCell (p := ⟨w3.heap.size, 3, none⟩) (Nat.le_of_lt tl3) _).setCell (p := ⟨w3.heap.size, 4, none⟩) (Nat.le_of_lt tl3) _).drew
      have tl5 : w3.heap.size < (((w4.setCell ⟨w3.heap.size, 3, none⟩ (.int .i64 (q : Int))).setCell ⟨w3.heap.size, 4, none⟩ (.int .i64 ((q : Int) + (n : Int)))).drew).heap.size := by simpa using tl4
      generalize ((w4.setCell ⟨w3.heap.size, 3, none⟩ (.int .i64 (q : Int))).setCell ⟨w3.heap.size, 4, none⟩ (.int .i64 ((q : Int) + (n : Int)))).drew = w5 at *
      clear n0 n1 n2 n3 n4 g3 g4 c0 c1 cf cl
      obtain ⟨n0, n1, n2, n3, n4⟩ := tok_cells hn5
      obtain ⟨t0, t1, t2, t3, t4⟩ := tok_cells hb5
      have f0 := Blk.frozen hb5 0
      have f1 := Blk.frozen hb5 1
      have f2 := Blk.frozen hb5 2
      have f3 := Blk.frozen hb5 3
      have f4 := Blk.frozen hb5 4
      have tl6 : w.heap.size < w5.heap.size := by omega
      have HB5 := Lib.hid hb5
      have HL5 := Lib.hid hl5
      clear hb5 hn5 hl5
      go_wp2_with fail
      have hbz := tok_put HB5.out (.int .i64 k) (.int .i64 i) (.string tV) (.int .i64 (q : Int)) (.int .i64 ((q : Int) + (n : Int)))
      have hlz := tok_below HL5.out (Nat.le_refl _) (.int .i64 k) (.int .i64 i) (.string tV) (.int .i64 (q : Int)) (.int .i64 ((q : Int) + (n : Int)))
      refine bodyPost_ret (v := .tuple #[tokV k i tV q ((q : Int) + (n : Int)), .int .i64 q, .int .i64 0]) ?_ rfl ?_
      · obtain ⟨z0, z1, z2, z3, z4⟩ := tok_cells hbz
        clear hbz
        generalize World.setCell _ _ _ = W at *
        simp [results, Tryz.results68, go_sem, tokV, z0, z1, z2, z3, z4]
      · exact ⟨by rw [HV2.out]; rfl, hlz⟩
end Go.Proofs.YthbdhijkdldmoaaGreatDoor
namespace Go.Proofs.YthbdhijkdldmoaaGreatDoor
open Go.RowKit Tk
/-- What is read at place p where l is left: a token's parts (its places too), the place, the code. -/
def NxRel (p : Nat) (l : Tk.Src) (k i : Int) (t : ByteArray) (a e f er : Int) : Prop :=
  (l.drop (skipN false l) = [] ∧ k = 0 ∧ er = 0) ∨
  (∃ x r, l.drop (skipN false l) = x :: r ∧ one (x :: r) = .error er ∧ er ≠ 0 ∧ f = (p + skipN false l : Nat)) ∨
  (∃ x r b n, l.drop (skipN false l) = x :: r ∧ one (x :: r) = .ok (b, n) ∧ k = b.kind ∧ i = b.int ∧ t = ⟨b.text.toArray⟩ ∧ a = (p + skipN false l : Nat) ∧ e = (p + skipN false l + n : Nat) ∧ er = 0)
theorem nextV_form (p : Nat) (l : Tk.Src) : ∃ k i t a e f er, nextV p l = .tuple #[tokV k i t a e, .int .i64 f, .int .i64 er] ∧ NxRel p l k i t a e f er := by
  unfold nextV nextW NxRel
  cases h : l.drop (skipN false l) with
  | nil => exact ⟨_, _, _, _, _, _, _, rfl, .inl ⟨rfl, rfl, rfl⟩⟩
  | cons x r =>
    dsimp only
    cases ho : one (x :: r) with
    | error er => exact ⟨_, _, _, _, _, _, _, rfl, .inr (.inl ⟨x, r, rfl, ho, one_err ho, rfl⟩)⟩
    | ok tn =>
      obtain ⟨b, n⟩ := tn
      exact ⟨_, _, _, _, _, _, _, rfl, .inr (.inr ⟨x, r, b, n, rfl, ho, rfl, rfl, rfl, rfl, rfl, rfl⟩)⟩
def NextPost (p : Nat) (l : Tk.Src) (w : World) (e : Ending) (w' : World) : Prop :=
  ∃ k i t a en f er, e = .returned (.tuple #[tokV k i t a en, .int .i64 f, .int .i64 er]) ∧ NxRel p l k i t a en f er ∧ Below w.heap.size w w'
theorem nx_zero {p : Nat} {l : Tk.Src} {k i : Int} {t : ByteArray} {a e f f2 : Int} (h : NxRel p l k i t a e f 0) : NxRel p l k i t a e f2 0 := by
  rcases h with h | ⟨_, _, _, _, h, _⟩ | h
  · exact .inl h
  · exact absurd rfl h
  · exact .inr (.inr h)
set_option maxRecDepth 100000 in
set_option maxHeartbeats 4000000 in
theorem Next_any (S : ByteArray) (p : Nat) (w : World) (hp : p ≤ S.size) (hs : S.size ≤ 8192) :
    Calls Tryz.prog 47 #[.string S, .int .i64 p] w (NextPost p ((bys S).drop p) w) := by
  have HN := Lib.hid fun W => next_any S p W hp (by omega)
  obtain ⟨k, i, t, a, en, f, er, hv, hr⟩ := nextV_form p ((bys S).drop p)
  rw [hv] at HN
  have HR := Lib.hid hr
  have hb0 := Blk.new w 53 #[.int .i64 0, .int .i64 0, .string ⟨#[]⟩, .int .i64 0, .int .i64 0]
  have hf0 := (Below.refl w.heap.size w).alloc (Nat.le_refl _) (.cells #[.int .i64 0, .int .i64 0, .string ⟨#[]⟩, .int .i64 0, .int .i64 0] 53)
  have hz0 : (w.alloc (.cells #[.int .i64 0, .int .i64 0, .string ⟨#[]⟩, .int .i64 0, .int .i64 0] 53)).heap.size = w.heap.size + 1 := by simp
  have HB0 := Lib.hid hb0
  have HF0 := Lib.hid hf0
  have HZ0 := Lib.hid hz0
  have hd1 : decide ((8192 : Int) < (S.size : Int)) = false := decide_eq_false (by omega)
  have hd2 : decide ((p : Int) < 0) = false := decide_eq_false (by omega)
  have hd3 : decide ((S.size : Int) < (p : Int)) = false := decide_eq_false (by omega)
  have hd4 : ¬ ((8192 : Int) < (S.size : Int)) := by omega
  have hd5 : ¬ ((S.size : Int) < (p : Int)) := by omega
  have hd6 : (0 : Int) ≤ (p : Int) := by omega
  clear hv hr hb0 hf0 hz0
  go_enter Tryz.func47, Tryz.ntmps47
  go_wp2_with fail
  generalize w.alloc (.cells #[.int .i64 0, .int .i64 0, .string ⟨#[]⟩, .int .i64 0, .int .i64 0] 53) = w0 at *
  refine (HN.out _).mono ?_
  rintro e w3 ⟨rfl, hb⟩
  have hb3 := HB0.out.below hb (by have := HZ0.out; omega)
  have hl3 := HF0.out.trans (hb.mono HF0.out.size)
  have tl3 : w.heap.size < w3.heap.size := by have := hb.size; have := HZ0.out; omega
  clear hb hd1 hd2 hd3 hd4 hd5 hd6
  unfold tokV
  go_upto_region 6 with (fail)
  have hb4 := hb3.alloc (.cells #[.int .i64 k, .int .i64 i, .string t, .int .i64 a, .int .i64 en] 53)
  have hn4 := Blk.new w3 53 #[.int .i64 k, .int .i64 i, .string t, .int .i64 a, .int .i64 en]
  have hl4 := hl3.alloc hl3.size (.cells #[.int .i64 k, .int .i64 i, .string t, .int .i64 a, .int .i64 en] 53)
  have tl4 : w3.heap.size < (w3.alloc (.cells #[.int .i64 k, .int .i64 i, .string t, .int .i64 a, .int .i64 en] 53)).heap.size := by simp
  generalize w3.alloc (.cells #[.int .i64 k, .int .i64 i, .string t, .int .i64 a, .int .i64 en] 53) = w4 at *
  obtain ⟨n0, n1, n2, n3, n4⟩ := tok_cells hn4
  obtain ⟨t0, t1, t2, t3, t4⟩ := tok_cells hb4
  have f0 := Blk.frozen hb4 0
  have f1 := Blk.frozen hb4 1
  have f2 := Blk.frozen hb4 2
  have f3 := Blk.frozen hb4 3
  have f4 := Blk.frozen hb4 4
  have tl6 : w.heap.size < w4.heap.size := by omega
  have HB5 := Lib.hid hb4
  have HL5 := Lib.hid hl4
  clear hb3 hl3 hb4 hn4 hl4
  by_cases he : er = 0
  · have hr2 : NxRel p ((bys S).drop p) k i t a en 0 0 := by have := HR.out; rw [he] at this; exact nx_zero this
    have HR2 := Lib.hid hr2
    subst he
    clear HR hr2
    go_wp2_with fail
    have hbz := tok_put HB5.out (.int .i64 k) (.int .i64 i) (.string t) (.int .i64 a) (.int .i64 en)
    have hlz := tok_below HL5.out (Nat.le_refl _) (.int .i64 k) (.int .i64 i) (.string t) (.int .i64 a) (.int .i64 en)
    refine bodyPost_ret (v := .tuple #[tokV k i t a en, .int .i64 0, .int .i64 0]) ?_ rfl ?_
    · obtain ⟨z0, z1, z2, z3, z4⟩ := tok_cells hbz
      clear hbz
      generalize World.setCell _ _ _ = W at *
      simp [results, Tryz.results47, go_sem, tokV, z0, z1, z2, z3, z4]
    · exact ⟨k, i, t, a, en, 0, 0, rfl, HR2.out, hlz⟩
  · have he2 : (er == 0) = false := by simpa using he
    clear he
    go_wp2_with fail
    have hbz := tok_put HB5.out (.int .i64 k) (.int .i64 i) (.string t) (.int .i64 a) (.int .i64 en)
    have hlz := tok_below HL5.out (Nat.le_refl _) (.int .i64 k) (.int .i64 i) (.string t) (.int .i64 a) (.int .i64 en)
    refine bodyPost_ret (v := .tuple #[tokV k i t a en, .int .i64 f, .int .i64 er]) ?_ rfl ?_
    · obtain ⟨z0, z1, z2, z3, z4⟩ := tok_cells hbz
      clear hbz
      generalize World.setCell _ _ _ = W at *
      simp [results, Tryz.results47, go_sem, tokV, z0, z1, z2, z3, z4]
    · exact ⟨k, i, t, a, en, f, er, rfl, HR.out, hlz⟩
set_option maxRecDepth 100000 in
set_option maxHeartbeats 4000000 in
/-- A source that is too long. -/
theorem Next_long (S : ByteArray) (p : Int) (w : World) (hs : 8192 < S.size) :
    Calls Tryz.prog 47 #[.string S, .int .i64 p] w fun e w' => e = .returned (.tuple #[tokV 0 0 ⟨#[]⟩ 0 0, .int .i64 0, .int .i64 2]) ∧ Below w.heap.size w w' := by
  have hb0 := Blk.new w 53 #[.int .i64 0, .int .i64 0, .string ⟨#[]⟩, .int .i64 0, .int .i64 0]
  have hf0 := (Below.refl w.heap.size w).alloc (Nat.le_refl _) (.cells #[.int .i64 0, .int .i64 0, .string ⟨#[]⟩, .int .i64 0, .int .i64 0] 53)
  have HB0 := Lib.hid hb0
  have HF0 := Lib.hid hf0
  have hd4 : ((8192 : Int) < (S.size : Int)) := by omega
  clear hb0 hf0
  go_enter Tryz.func47, Tryz.ntmps47
  go_wp2_with fail
  refine bodyPost_ret (v := .tuple #[tokV 0 0 ⟨#[]⟩ 0 0, .int .i64 0, .int .i64 2]) ?_ rfl ?_
  · obtain ⟨z0, z1, z2, z3, z4⟩ := tok_cells HB0.out
    simp [results, Tryz.results47, go_sem, tokV]
  · exact ⟨rfl, HF0.out⟩
end Go.Proofs.YthbdhijkdldmoaaGreatDoor
