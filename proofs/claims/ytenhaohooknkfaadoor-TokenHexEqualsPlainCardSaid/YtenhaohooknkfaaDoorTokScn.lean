/- The walk of Scan. -/
import Derived.Test.YtenhaohooknkfaaDoorTokNx
import Derived.Test.YtenhaohooknkfaaDoorTokJoin
import Derived.Test.YtenhaohooknkfaaDoorTokValid
namespace Go.Proofs.YtenhaohooknkfaaDoor
open Go.RowKit Tk
/-- A token's cells. -/
def tokC (t : Tok) : List Value := [.int .i64 t.b.kind, .int .i64 t.b.int, .string ⟨t.b.text.toArray⟩, .int .i64 (t.at_ : Int), .int .i64 (t.en : Int)]
def toksC (ts : List Tok) : List Value := ts.flatMap tokC
theorem toksC_snoc (ts : List Tok) (t : Tok) : toksC (ts ++ [t]) = toksC ts ++ tokC t := by unfold toksC; rw [List.flatMap_append]; simp
theorem toksC_len (ts : List Tok) : (toksC ts).length = ts.length * 5 := by
  induction ts with
  | nil => rfl
  | cons t r ih =>
    rw [show toksC (t :: r) = tokC t ++ toksC r from rfl, List.length_append, ih, List.length_cons]
    simp [tokC]; omega
theorem vtok_pos {b : BTok} (h : VTok b) : 1 ≤ b.kind ∧ b.kind ≤ 9 := by
  cases h <;> (dsimp only; omega)
def addT (ts : List Tok) (T : Except (Nat × Int) (List Tok)) : Except (Nat × Int) (List Tok) := match T with
  | .error e => .error e
  | .ok us => .ok (ts ++ us)
theorem eTk : ElemK Tryd.prog 23 28 (.agg #[.int .i64 0, .int .i64 0, .string ⟨#[]⟩, .int .i64 0, .int .i64 0]) 5 48 := ElemK.mk_ Tryd.underlying23 (by kernel_rfl) rfl
/-- What Scan answers. -/
def ScanPost (T : Except (Nat × Int) (List Tok)) (w : World) (e : Ending) (w' : World) : Prop :=
  Below w.heap.size w w' ∧ match T with
    | .error (q, er) => e = .returned (.tuple #[.slice none 0 0, .int .i64 (q : Int), .int .i64 er])
    | .ok ts => ∃ v, e = .returned (.tuple #[v, .int .i64 0, .int .i64 0]) ∧ w'.ownsRow w.heap.size 28 5 v ts.length (toksC ts)
theorem scan_ok {T : Except (Nat × Int) (List Tok)} {w w' : World} {e : Ending} {ts : List Tok} {v : Value} (h : T = .ok ts) (hb : Below w.heap.size w w') (he : e = .returned (.tuple #[v, .int .i64 0, .int .i64 0])) (ho : w'.ownsRow w.heap.size 28 5 v ts.length (toksC ts)) : ScanPost T w e w' := by
  unfold ScanPost; rw [h]; exact ⟨hb, v, he, ho⟩
theorem scan_bad {T : Except (Nat × Int) (List Tok)} {w w' : World} {e : Ending} {q : Nat} {er : Int} (h : T = .error (q, er)) (hb : Below w.heap.size w w') (he : e = .returned (.tuple #[.slice none 0 0, .int .i64 (q : Int), .int .i64 er])) : ScanPost T w e w' := by
  unfold ScanPost; rw [h]; exact ⟨hb, he⟩
theorem addT_tok {f p n : Nat} {l r : Src} {x : UInt8} {b : BTok} {ts : List Tok} (h : l.drop (skipN false l) = x :: r) (ho : one (x :: r) = .ok (b, n)) :
    addT ts (scanF (f + 1) p l) = addT (ts ++ [⟨b, p + skipN false l, p + skipN false l + n⟩]) (scanF f (p + skipN false l + n) ((x :: r).drop n)) := by
  rw [scanF_step, h]
  dsimp only
  rw [ho]
  dsimp only
  cases scanF f (p + skipN false l + n) ((x :: r).drop n) with
  | error e => rfl
  | ok us => simp [addT]
theorem addT_end {f p : Nat} {l : Src} {ts : List Tok} (h : l.drop (skipN false l) = []) : addT ts (scanF (f + 1) p l) = .ok ts := by
  rw [scanF_step, h]; simp [addT]
theorem addT_bad {f p : Nat} {l r : Src} {x : UInt8} {er : Int} {ts : List Tok} (h : l.drop (skipN false l) = x :: r) (ho : one (x :: r) = .error er) : addT ts (scanF (f + 1) p l) = .error (p + skipN false l, er) := by
  rw [scanF_step, h]
  dsimp only
  rw [ho]; rfl
set_option maxRecDepth 100000 in
set_option maxHeartbeats 8000000 in
theorem Scan_any (S : ByteArray) (w : World) :
    Calls Tryd.prog 9 #[.string S] w (ScanPost (scan (bys S)) w) := by
  by_cases hlong : 8192 < S.size
  · have hT : scan (bys S) = .error (0, 2) := by unfold scan; rw [if_pos (by rw [bys_len]; exact hlong)]
    have HT := Lib.hid hT
    generalize scan (bys S) = T at *
    have HN := Lib.hid fun W => Next_long S 0 W hlong
    clear hT hlong
    go_enter Tryd.func9, Tryd.ntmps9
    go_wp2_with fail
    refine wp_loop_rounds 1 ?_
    rw [rounds_succ]
    go_wp2_with fail
    refine (HN.out _).mono ?_
    rintro e w2 ⟨rfl, hb⟩
    have HB := Lib.hid hb
    clear hb
    unfold tokV
    go_wp2_with fail
    refine bodyPost_ret (v := .tuple #[.slice none 0 0, .int .i64 0, .int .i64 2]) (by simp [results, Tryd.results9, go_sem]) rfl ?_
    exact scan_bad (q := 0) HT.out (HB.out.alloc HB.out.size _) rfl
  · have hs : S.size ≤ 8192 := by omega
    have hT : scan (bys S) = addT [] (scanF ((bys S).length + 1) 0 ((bys S).drop 0)) := by
      unfold scan
      rw [if_neg (by rw [bys_len]; exact hlong), List.drop_zero]
      cases scanF ((bys S).length + 1) 0 (bys S) <;> rfl
    have HT := Lib.hid hT
    generalize scan (bys S) = T at *
    have HN := Lib.hid fun p W hp => Next_any S p W hp hs
    clear hT hlong
    go_enter Tryd.func9, Tryd.ntmps9
    go_wp2_with fail
    go_loopw [5, 6] (fun v5 v6 wq => True ∧ ∃ (p f : Nat) (ts : List Tok) (A : Option Addr) (c : Nat), v5 = .slice A ts.length c ∧ v6 = .int .i64 p ∧ p ≤ S.size ∧ ts.length ≤ p ∧ ((bys S).drop p).length < f ∧ T = addT ts (scanF f p ((bys S).drop p)) ∧ wq.ownsRow w.heap.size 28 5 (.slice A ts.length c) ts.length (toksC ts) ∧ Below w.heap.size w wq) (fun _ v6 _ => S.size - (intOf v6).toNat)
    case atStart => exact ⟨trivial, 0, (bys S).length + 1, [], none, 0, rfl, rfl, Nat.zero_le _, Nat.le_refl _, by simp, HT.out, World.ownsRow_nil _ _ _ _, Below.refl _ _⟩
    case round =>
      obtain ⟨-, p, f, ts, A, c, rfl, rfl, hp, hlp, hf, htx, hown, hbl⟩ := hrel
      obtain ⟨g, rfl⟩ : ∃ g, f = g + 1 := ⟨f - 1, by omega⟩
      have HTx := Lib.hid htx
      have HO := Lib.hid hown
      have HBl := Lib.hid hbl
      have HNp := Lib.hid fun W => HN.out p W hp
      have hlen : ((bys S).drop p).length = S.size - p := by rw [List.length_drop, bys_len]
      have HLn := Lib.hid hlen
      clear htx hown hbl hlen
      go_wp2_with fail
      refine (HNp.out _).mono ?_
      rintro e w3 ⟨k, i, t, a, en, fr, er, rfl, hr, hb⟩
      have HB3 := Lib.hid hb
      have HO3 := Lib.hid (own_below HO.out hb)
      have HBl3 := Lib.hid (HBl.out.trans (hb.mono HBl.out.size))
      have hs3 := hb.size
      have hs4 := HBl.out.size
      clear hb
      unfold tokV
      rcases hr with ⟨h1, h2, h3⟩ | ⟨x, r, h1, h2, h3, h4⟩ | ⟨x, r, b, n, h1, h2, h3, h4, h5, h6, h7, h8⟩
      · have HSt := Lib.hid (HTx.out.trans (addT_end h1))
        clear h1
        subst h2 h3
        go_upto_region 4 with (fail)
        have hn4 := Blk.new w3 28 #[.int .i64 0, .int .i64 i, .string t, .int .i64 a, .int .i64 en]
        have HO4 := Lib.hid (own_below HO3.out ((Below.refl w3.heap.size w3).alloc (Nat.le_refl _) (.cells #[.int .i64 0, .int .i64 i, .string t, .int .i64 a, .int .i64 en] 28)))
        have HB4 := Lib.hid (HBl3.out.alloc (by omega) (.cells #[.int .i64 0, .int .i64 i, .string t, .int .i64 a, .int .i64 en] 28))
        generalize w3.alloc (.cells #[.int .i64 0, .int .i64 i, .string t, .int .i64 a, .int .i64 en] 28) = w4 at *
        obtain ⟨n0, n1, n2, n3, n4⟩ := tok_cells hn4
        clear hn4
        go_wp2_with fail
        refine bodyPost_ret (v := .tuple #[.slice A ts.length c, .int .i64 0, .int .i64 0]) (by simp [results, Tryd.results9, go_sem]) rfl ?_
        exact scan_ok HSt.out HB4.out rfl HO4.out
      · have HSt := Lib.hid (HTx.out.trans (addT_bad h1 h2))
        subst h4
        generalize p + skipN false ((bys S).drop p) = q at *
        have her : (er != 0) = true := by simpa using h3
        clear h1 h2 h3
        go_wp2_with fail
        refine bodyPost_ret (v := .tuple #[.slice none 0 0, .int .i64 (q : Int), .int .i64 er]) (by simp [results, Tryd.results9, go_sem]) rfl ?_
        exact scan_bad HSt.out (HBl3.out.alloc (by omega) _) rfl
      · obtain ⟨oa, ob, hOw⟩ := one_own h2
        have hkd : b.kind ≠ 0 := by have := (vtok_pos (one_valid h2).1).1; omega
        have hk0 : (k == 0) = false := by rw [h3]; simpa using hkd
        have hpos : 0 < n := by rw [hOw.len]; exact hOw.pos
        have hln : p + skipN false ((bys S).drop p) + n ≤ S.size := by
          have e1 := congrArg List.length h1
          have e2 := congrArg List.length hOw.eq
          rw [List.length_append, ← hOw.len] at e2
          rw [e2, List.length_drop, HLn.out] at e1
          omega
        have HSt := Lib.hid (HTx.out.trans (addT_tok h1 h2))
        have hdr : (x :: r).drop n = (bys S).drop (p + skipN false ((bys S).drop p) + n) := by rw [← h1, List.drop_drop, List.drop_drop, Nat.add_assoc]
        rw [hdr] at HSt
        have hC : Hid (tokC ⟨b, p + skipN false ((bys S).drop p), p + skipN false ((bys S).drop p) + n⟩ = [.int .i64 k, .int .i64 i, .string t, .int .i64 a, .int .i64 en]) := by
          unfold Hid tokC
          rw [h3, h4, h5, h6, h7]
        generalize hq : p + skipN false ((bys S).drop p) = q at *
        have hpq : p ≤ q := by omega
        have hen : en = ((q + n : Nat) : Int) := h7
        generalize hqn : q + n = qn at *
        have hpqn : p < qn := by omega
        have hfu : ((bys S).drop qn).length < g := by have := HLn.out; rw [List.length_drop, bys_len]; omega
        subst h8 hen
        clear h1 h2 h3 h4 h5 h6 h7 hOw hkd hdr hq hqn hpq
        have hg1 := own_lt HO3.out
        go_upto_region 4 with (fail)
        have hn4 := Blk.new w3 28 #[.int .i64 k, .int .i64 i, .string t, .int .i64 a, .int .i64 (qn : Int)]
        have HO4 := Lib.hid (own_below HO3.out ((Below.refl w3.heap.size w3).alloc (Nat.le_refl _) (.cells #[.int .i64 k, .int .i64 i, .string t, .int .i64 a, .int .i64 (qn : Int)] 28)))
        have HB4 := Lib.hid (HBl3.out.alloc (by omega) (.cells #[.int .i64 k, .int .i64 i, .string t, .int .i64 a, .int .i64 (qn : Int)] 28))
        have hz4 : w3.heap.size < (w3.alloc (.cells #[.int .i64 k, .int .i64 i, .string t, .int .i64 a, .int .i64 (qn : Int)] 28)).heap.size := by simp
        generalize w3.alloc (.cells #[.int .i64 k, .int .i64 i, .string t, .int .i64 a, .int .i64 (qn : Int)] 28) = w4 at *
        have HN4 := Lib.hid hn4
        have HG1 := Lib.hid hg1
        obtain ⟨n0, n1, n2, n3, n4⟩ := tok_cells hn4
        clear hn4 hg1
        go_wp2_with (at_builtin; go_must (refine wpList_pushk eTk rfl (.tmp 25) (.tmp 27) rfl w.heap.size (.slice A ts.length c) ts.length _ rfl (own_below HO4.out ((Below.refl w4.heap.size w4).alloc (Nat.le_refl _) _)) ⟨w4.heap.size, 0, none⟩ 1 [.int .i64 k, .int .i64 i, .string t, .int .i64 a, .int .i64 (qn : Int)] rfl rfl (news_new _ _ _ _ rfl) (by simp [Value.oneCell']) (by omega) (by omega) (by omega) (by simp; omega) ?_); go_must (intro v' w5 hown5 hgr5 hk5; have HO5 := Lib.hid hown5; have HGr5 := Lib.hid hgr5; have n5 := (tok_cells ((HN4.out.alloc (.cells #[.int .i64 k, .int .i64 i, .string t, .int .i64 a, .int .i64 (qn : Int)] 28)).grown hgr5 (fun e => by have := HG1.out _ e.symm; omega))).2.2.2.2; clear hown5 hgr5 hk5))
        obtain ⟨g5, c5, rfl, -, -⟩ := HO5.out.form (by omega)
        have hb5 : Below w.heap.size w w5 := ((FrS.of_below (S := fun _ => False) ((HB4.out.alloc HB4.out.size (.cells #[.int .i64 k, .int .i64 i, .string t, .int .i64 a, .int .i64 (qn : Int)] 28))) (Nat.le_refl _)).grown HGr5.out (by have := HB4.out.size; simp; omega) (fun j e => .inl (HG1.out j e).1)).below (Nat.le_refl _) fun _ e => e.elim
        have hl5 : (ts ++ [(⟨b, q, qn⟩ : Tok)]).length = ts.length + 1 := by simp
        refine ⟨⟨trivial, qn, g, ts ++ [(⟨b, q, qn⟩ : Tok)], some (⟨g5, 0, none⟩ : Addr), c5, by rw [hl5], rfl, by omega, by rw [hl5]; omega, hfu, HSt.out, ?_, hb5⟩, by simp [intOf]; omega⟩
        rw [hl5, toksC_snoc, hC.out]
        exact HO5.out
end Go.Proofs.YtenhaohooknkfaaDoor
