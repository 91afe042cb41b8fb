/- The walk of value: one value of a line. -/
import Derived.Test.YtcbnelklilamgaaDoorVryPr
namespace Go.Proofs.YtcbnelklilamgaaDoor
open Go.RowKit Vr
theorem results_tmp4 {fn : Func} {t u v x : Tmp} (h : fn.results = #[.tmp t, .tmp u, .tmp v, .tmp x]) (tmps : Array Value) (P : Program) (w : World) :
    (results fn tmps).run P w = .ok (.tuple #[tmps.getD t undef, tmps.getD u undef, tmps.getD v undef, tmps.getD x undef]) w := by
  simp [results, h]
/-- What value answers. -/
def valT : Option (Src × UInt8 × Src) → Value
  | none => .tuple #[.string ⟨#[]⟩, .int .u8 0, .string ⟨#[]⟩, .bool false]
  | some (v, e, r) => .tuple #[.string (Bs v), .int .u8 e.toNat, .string (Bs r), .bool true]
theorem bs_extract (s : Src) (a b : Nat) : (Bs s).extract a b = Bs ((s.drop a).take (b - a)) := by
  apply ByteArray.ext
  apply Array.ext'
  rw [ByteArray.data_extract, Array.toList_extract]
theorem pre_head (s : Src) : Lib.hasPrefix s [34] = decide (s.head? = some 34) := by
  cases s with
  | nil => rfl
  | cons c r =>
    have h1 : Lib.hasPrefix (c :: r) [34] = ((34 : UInt8) == c) := by
      show ((34 : UInt8) == c && ([] : Src).isPrefixOf r) = _
      cases r <;> simp [List.isPrefixOf]
    rw [h1, Bool.eq_iff_iff, decide_eq_true_eq, beq_iff_eq, List.head?_cons, Option.some.injEq]
    exact eq_comm
theorem index_find (s : Src) : Lib.indexAny s [44, 34, 10] = if s.findIdx spec < s.length then (s.findIdx spec : Int) else -1 := by
  have hs : ∀ c : UInt8, [44, 34, 10].contains c = spec c := fun c => by simp [spec, Bool.or_assoc]; rfl
  induction s with
  | nil => rfl
  | cons c s ih =>
    rw [Lib.indexAny, hs, List.findIdx_cons]
    cases hc : spec c with
    | true => simp
    | false =>
      rw [ih]
      simp only [Bool.false_eq_true, if_false, cond_false, List.length_cons]
      by_cases h : s.findIdx spec < s.length
      · have h2 : ((s.findIdx spec : Int) == -1) = false := by rw [beq_eq_false_iff_ne]; omega
        simp [h, h2]
      · simp [h]
set_option maxRecDepth 100000 in
set_option maxHeartbeats 16000000 in
theorem value_any (s : Src) (w : World) (hs : s.length ≤ 8192) :
    Calls Tryd.prog 40 #[.string (Bs s)] w fun e w' => e = .returned (valT (valueP s)) ∧ Below w.heap.size w w' := by
  have HG := Lib.hid (bs_get s)
  have HZ := Lib.hid (bs_size s)
  have HEx := Lib.hid (bs_extract s)
  have HHp := Lib.hid (fun W => strings_HasPrefix (Bs s) ⟨#[34]⟩ W)
  rw [bs_list, show (⟨#[34]⟩ : ByteArray).data.toList = [34] from rfl, pre_head] at HHp
  have HIx := Lib.hid (fun W => index_any (Bs s) ⟨#[44, 34, 10]⟩ W (by decide) (by rw [bs_size]; omega) (by decide) (by decide))
  rw [bs_list, show (⟨#[44, 34, 10]⟩ : ByteArray).data.toList = [44, 34, 10] from rfl, index_find] at HIx
  have hz := bs_size s
  have hsz : (Bs s).size ≤ 8192 := by omega
  clear hz
  generalize Bs s = S at *
  by_cases hq : s.head? = some 34
  case neg =>
    have HV : Hid (valueP s = if s.findIdx spec = 0 ∨ s.length ≤ s.findIdx spec then none else if s[s.findIdx spec]? = some 34 then none else some (s.take (s.findIdx spec), (s[s.findIdx spec]?).getD 0, s.drop (s.findIdx spec + 1))) := by
      unfold valueP; rw [if_neg hq]; exact rfl
    rw [decide_eq_false hq] at HHp
    clear hq
    generalize valueP s = VP at *
    generalize hi : s.findIdx spec = i at *
    clear hi
    go_enter Tryd.func40, Tryd.ntmps40
    go_wp2_with fail
    refine (HHp.out _).mono ?_
    rintro e w2 ⟨rfl, rfl⟩
    by_cases hil : i < s.length
    case neg =>
      have H1 : Hid (VP = none) := by rw [HV.out, if_pos (.inr (by omega))]; exact rfl
      rw [if_neg hil] at HIx
      go_wp2_with fail
      refine (HIx.out _).mono ?_
      rintro e w3 ⟨rfl, hb⟩
      go_wp2_with fail
      refine bodyPost_ret (results_tmp4 rfl _ _ _) rfl ?_
      exact ⟨by rw [H1.out]; rfl, hb⟩
    rw [if_pos hil] at HIx
    by_cases hi0 : i = 0
    · have H1 : Hid (VP = none) := by rw [HV.out, if_pos (.inl hi0)]; exact rfl
      have t0 : decide ((i : Int) < 1) = true := by simp; omega
      clear hi0
      go_wp2_with fail
      refine (HIx.out _).mono ?_
      rintro e w3 ⟨rfl, hb⟩
      go_wp2_with fail
      refine bodyPost_ret (results_tmp4 rfl _ _ _) rfl ?_
      exact ⟨by rw [H1.out]; rfl, hb⟩
    have t0 : decide ((i : Int) < 1) = false := by simp; omega
    have hiS : i < S.size := by rw [HZ.out]; exact hil
    have hg := HG.out i hiS
    have e0 : s[i]? = some (s.getD i 0) := by rw [List.getD_eq_getElem?_getD, List.getElem?_eq_getElem hil]; rfl
    have HV2 : Hid (VP = if s.getD i 0 = 34 then none else some (s.take i, s.getD i 0, s.drop (i + 1))) := by
      rw [HV.out, if_neg (by omega), e0]
      by_cases h : s.getD i 0 = 34
      · rw [if_pos (by rw [h]), if_pos h]; exact rfl
      · rw [if_neg (by simpa using h), if_neg h]; exact rfl
    clear HV
    rw [← hg] at HV2
    have HX : Hid (S.extract 0 i = Bs (s.take i)) := by rw [HEx.out]; simp [Hid]
    have HY : Hid (S.extract (i + 1) S.size = Bs (s.drop (i + 1))) := by
      rw [HEx.out, HZ.out, List.take_of_length_le (by rw [List.length_drop]; omega)]; exact rfl
    clear hg e0
    by_cases h34 : S[i]'hiS = 34
    · have H1 : Hid (VP = none) := by rw [HV2.out, if_pos h34]; exact rfl
      have u0 : (((S[i]'hiS).toNat : Int) == 34) = true := by rw [h34]; rfl
      clear h34
      go_wp2_with fail
      refine (HIx.out _).mono ?_
      rintro e w3 ⟨rfl, hb⟩
      go_wp2_with fail
      refine bodyPost_ret (results_tmp4 rfl _ _ _) rfl ?_
      exact ⟨by rw [H1.out]; rfl, hb⟩
    · have H1 : Hid (VP = some (s.take i, S[i]'hiS, s.drop (i + 1))) := by rw [HV2.out, if_neg h34]; exact rfl
      have u0 : (((S[i]'hiS).toNat : Int) == 34) = false := by
        rw [beq_eq_false_iff_ne]
        intro h
        exact h34 (UInt8.toNat_inj.1 (by have : ((34 : UInt8).toNat : Int) = 34 := rfl; omega))
      have hw1 : IntKind.i64.wrap ((i : Int) + 1) = (i : Int) + 1 := wrap_small _ (by omega) (by omega)
      have q0 : (0 : Int) ≤ (i : Int) + 1 := by omega
      have q1 : (i : Int) + 1 ≤ (S.size : Int) := by omega
      have q2 : (i : Int) < (S.size : Int) := by omega
      have q3 : (i : Int) ≤ (S.size : Int) := by omega
      clear h34
      go_wp2_with fail
      refine (HIx.out _).mono ?_
      rintro e w3 ⟨rfl, hb⟩
      go_wp2_with fail
      go_quiet (fail)
      go_wp2_with fail
      refine bodyPost_ret (results_tmp4 rfl _ _ _) rfl ?_
      have e1 : valT (some (s.take i, S[i]'hiS, s.drop (i + 1))) = .tuple #[.string (S.extract 0 i), .int .u8 (S[i]'hiS).toNat, .string (S.extract (i + 1) S.size), .bool true] := by rw [HX.out, HY.out]; rfl
      exact ⟨by rw [H1.out, e1]; rfl, below_drewN hb _⟩
  obtain ⟨t, ht⟩ : ∃ t, s = 34 :: t := by
    cases s with
    | nil => cases hq
    | cons c t => exact ⟨t, by rw [List.head?_cons] at hq; injection hq with hq; rw [hq]⟩
  have HV : Hid (valueP s = scanQ [] (s.drop 1)) := by
    unfold valueP; rw [if_pos hq, ht]; exact rfl
  rw [decide_eq_true hq] at HHp
  clear hq ht
  generalize valueP s = VP at *
  have HD2 : Hid (∀ i, i + 1 < s.length → s.drop i = s.getD i 0 :: s.getD (i + 1) 0 :: s.drop (i + 2)) := fun i hi => by
    rw [List.drop_eq_getElem_cons (by omega), List.drop_eq_getElem_cons hi]
    simp [List.getD_eq_getElem?_getD, List.getElem?_eq_getElem (show i < s.length by omega), List.getElem?_eq_getElem hi]
  have HD1 : Hid (∀ (acc : Src) i, ¬ i + 1 < s.length → scanQ acc (s.drop i) = none) := fun acc i hi => by
    have hl : (s.drop i).length ≤ 1 := by rw [List.length_drop]; omega
    match h : s.drop i, hl with
    | [], _ => rw [scanQ]
    | [_], _ => rw [scanQ]
  go_enter Tryd.func40, Tryd.ntmps40
  go_wp2_with fail
  refine (HHp.out _).mono ?_
  rintro e w2 ⟨rfl, rfl⟩
  have HB0 := Lib.hid (bx_new w2)
  have hb0 := (Below.refl w2.heap.size w2).alloc (Nat.le_refl _) (.cells #[.pointer none, .slice none 0 0] 49)
  have HBb := Lib.hid hb0
  have hls : w2.heap.size < (w2.alloc (.cells #[.pointer none, .slice none 0 0] 49)).heap.size := by simp
  clear hb0
  go_wp2_with fail
  go_loopw [8, 39, 48, 57] (fun v8 _ _ _ wz => True ∧ ∃ (i : Nat) (acc : Src), 1 ≤ i ∧ i ≤ s.length + 1 ∧ v8 = .int .i64 (i : Int) ∧ scanQ acc (s.drop i) = VP ∧ acc.length ≤ i ∧ Bx w2.heap.size w2.heap.size acc wz ∧ Below w2.heap.size w2 wz ∧ w2.heap.size < wz.heap.size) (fun v8 _ _ _ _ => s.length + 2 - (intOf v8).toNat)
  case atStart => exact ⟨trivial, 1, [], by omega, by omega, rfl, HV.out.symm, by simp, HB0.out, HBb.out, hls⟩
  case round =>
    obtain ⟨-, i, acc, hi1, hi2, rfl, hsc, hal, hbx, hbz, hlz⟩ := hrel
    have HSc := Lib.hid hsc
    have HBx := Lib.hid hbx
    have HBz := Lib.hid hbz
    clear hsc hbx hbz
    by_cases hlt : i + 1 < s.length
    · have t1 : decide ((i : Int) + 1 < (S.size : Int)) = true := by
        have := HZ.out
        simp; omega
      have hS := HZ.out
      have hiS : i < S.size := by omega
      have hjS : i + 1 < S.size := by omega
      have hc := HG.out i hiS
      have hd := HG.out (i + 1) hjS
      have HDd := Lib.hid (HD2.out i hlt)
      have HDe : Hid (s.drop (i + 1) = s.getD (i + 1) 0 :: s.drop (i + 2)) := by
        rw [List.drop_eq_getElem_cons hlt]
        simp [Hid, List.getD_eq_getElem?_getD, List.getElem?_eq_getElem hlt]
      have HSd : Hid (scanQ acc (s.getD i 0 :: s.getD (i + 1) 0 :: s.drop (i + 2)) = VP) := by rw [← HDd.out]; exact HSc.out
      clear HDd HSc
      rw [← hc, ← hd] at HSd
      rw [← hd] at HDe
      have HDe2 := Lib.hid HDe.out.symm
      have HY : Hid (S.extract (i + 2) S.size = Bs (s.drop (i + 2))) := by
        rw [HEx.out, HZ.out, List.take_of_length_le (by rw [List.length_drop]; omega)]; exact rfl
      clear hc hd HDe
      have e34 : ∀ x : UInt8, x ≠ 34 → (x.toNat : Int) ≠ 34 := fun x h e => h (UInt8.toNat_inj.1 (by have : ((34 : UInt8).toNat : Int) = 34 := rfl; omega))
      have e44 : ∀ x : UInt8, x ≠ 44 → (x.toNat : Int) ≠ 44 := fun x h e => h (UInt8.toNat_inj.1 (by have : ((44 : UInt8).toNat : Int) = 44 := rfl; omega))
      have e10 : ∀ x : UInt8, x ≠ 10 → (x.toNat : Int) ≠ 10 := fun x h e => h (UInt8.toNat_inj.1 (by have : ((10 : UInt8).toNat : Int) = 10 := rfl; omega))
      have E34 := Lib.hid e34
      have E44 := Lib.hid e44
      have E10 := Lib.hid e10
      clear e34 e44 e10 hS
      by_cases c34 : S[i]'hiS = 34
      case neg =>
        have u0 : (((S[i]'hiS).toNat : Int) != 34) = true := by rw [bne_iff_ne]; exact E34.out _ c34
        have HSe : Hid (scanQ (acc ++ [S[i]'hiS]) (s.drop (i + 1)) = VP) := by
          have h := HSd.out
          rw [scanQ, if_pos c34, HDe2.out] at h
          exact h
        clear c34 HSd HDe2
        go_wp2_with fail
        refine (bx_byte HBx.out (S[i]'hiS) _ (by rfl) (by omega) (by omega)).mono ?_
        rintro e w5 ⟨rfl, hbx5, hb5, -⟩
        have HBx5 := Lib.hid hbx5
        have HB5 := Lib.hid (HBz.out.trans hb5)
        have hs5 := hb5.size
        clear hbx5 hb5
        go_wp2_with fail
        go_roundw
        case rel => exact ⟨trivial, i + 1, _, by omega, by omega, by go_num, HSe.out, by rw [List.length_append, List.length_singleton]; omega, HBx5.out, HB5.out, by omega⟩
        case measure => simp [intOf]; omega
      have u0 : (((S[i]'hiS).toNat : Int) != 34) = false := by rw [c34]; rfl
      have HSe : Hid ((if S[i + 1]'hjS = 34 then scanQ (acc ++ [34]) (s.drop (i + 2)) else if S[i + 1]'hjS = 44 ∨ S[i + 1]'hjS = 10 then some (acc, S[i + 1]'hjS, s.drop (i + 2)) else none) = VP) := by
        have h := HSd.out
        rw [scanQ, if_neg (by simpa using c34)] at h
        exact h
      clear c34 HSd HDe2
      by_cases d34 : S[i + 1]'hjS = 34
      · have u1 : (((S[i + 1]'hjS).toNat : Int) == 34) = true := by rw [d34]; rfl
        rw [if_pos d34] at HSe
        clear d34
        go_wp2_with fail
        refine (bx_byte HBx.out 34 34 (by rfl) (by omega) (by omega)).mono ?_
        rintro e w5 ⟨rfl, hbx5, hb5, -⟩
        have HBx5 := Lib.hid hbx5
        have HB5 := Lib.hid (HBz.out.trans hb5)
        have hs5 := hb5.size
        clear hbx5 hb5
        go_wp2_with fail
        go_roundw
        case rel => exact ⟨trivial, i + 2, _, by omega, by omega, by go_num, HSe.out, by rw [List.length_append, List.length_singleton]; omega, HBx5.out, HB5.out, by omega⟩
        case measure => simp [intOf]; omega
      have u1 : (((S[i + 1]'hjS).toNat : Int) == 34) = false := by rw [beq_eq_false_iff_ne]; exact E34.out _ d34
      rw [if_neg d34] at HSe
      clear d34
      by_cases d44 : S[i + 1]'hjS = 44
      · have u2 : (((S[i + 1]'hjS).toNat : Int) == 44) = true := by rw [d44]; rfl
        rw [if_pos (.inl d44)] at HSe
        clear d44
        have HStr : Hid (∀ n, Calls Tryd.prog 25 #[.pointer (some ⟨w2.heap.size, 0, none⟩)] (wr.drewN n) fun e w' => e = .returned (.string (Bs acc)) ∧ Below w2.heap.size w2 w') := fun n =>
          (bx_string (bx_below HBx.out (below_drewN (Below.refl _ wr) n)) (by show w2.heap.size ≤ wr.heap.size; omega)).mono fun e w' ⟨h1, h2⟩ => ⟨h1, (below_drewN HBz.out n).trans h2⟩
        have e2 : Hid (valT (some (acc, S[i + 1]'hjS, s.drop (i + 2))) = .tuple #[.string (Bs acc), .int .u8 (S[i + 1]'hjS).toNat, .string (S.extract (i + 2) S.size), .bool true]) := by rw [HY.out]; exact rfl
        have hw1 : IntKind.i64.wrap ((i : Int) + 1) = (i : Int) + 1 := wrap_small _ (by omega) (by omega)
        have hw2 : IntKind.i64.wrap ((i : Int) + 2) = (i : Int) + 2 := wrap_small _ (by omega) (by omega)
        have q0 : (0 : Int) ≤ (i : Int) + 2 := by omega
        have q1 : (i : Int) + 2 ≤ (S.size : Int) := by omega
        have q2 : (i : Int) + 1 < (S.size : Int) := by omega
        have q3 : (0 : Int) ≤ (i : Int) + 1 := by omega
        go_wp2_with fail
        go_region_with (go_at_call 25; refine (HStr.out _).mono ?_; rintro e w5 ⟨rfl, hb5⟩)
        all_goals
          go_wp2_with fail
          refine bodyPost_ret (results_tmp4 rfl _ _ _) rfl ?_
          exact ⟨by rw [← HSe.out, e2.out]; rfl, hb5⟩
      have u2 : (((S[i + 1]'hjS).toNat : Int) == 44) = false := by rw [beq_eq_false_iff_ne]; exact E44.out _ d44
      by_cases d10 : S[i + 1]'hjS = 10
      · have u3 : (((S[i + 1]'hjS).toNat : Int) == 10) = true := by rw [d10]; rfl
        rw [if_pos (.inr d10)] at HSe
        clear d44 d10
        have HStr : Hid (∀ n, Calls Tryd.prog 25 #[.pointer (some ⟨w2.heap.size, 0, none⟩)] (wr.drewN n) fun e w' => e = .returned (.string (Bs acc)) ∧ Below w2.heap.size w2 w') := fun n =>
          (bx_string (bx_below HBx.out (below_drewN (Below.refl _ wr) n)) (by show w2.heap.size ≤ wr.heap.size; omega)).mono fun e w' ⟨h1, h2⟩ => ⟨h1, (below_drewN HBz.out n).trans h2⟩
        have e2 : Hid (valT (some (acc, S[i + 1]'hjS, s.drop (i + 2))) = .tuple #[.string (Bs acc), .int .u8 (S[i + 1]'hjS).toNat, .string (S.extract (i + 2) S.size), .bool true]) := by rw [HY.out]; exact rfl
        have hw1 : IntKind.i64.wrap ((i : Int) + 1) = (i : Int) + 1 := wrap_small _ (by omega) (by omega)
        have hw2 : IntKind.i64.wrap ((i : Int) + 2) = (i : Int) + 2 := wrap_small _ (by omega) (by omega)
        have q0 : (0 : Int) ≤ (i : Int) + 2 := by omega
        have q1 : (i : Int) + 2 ≤ (S.size : Int) := by omega
        have q2 : (i : Int) + 1 < (S.size : Int) := by omega
        have q3 : (0 : Int) ≤ (i : Int) + 1 := by omega
        go_wp2_with fail
        go_region_with (go_at_call 25; refine (HStr.out _).mono ?_; rintro e w5 ⟨rfl, hb5⟩)
        all_goals
          go_wp2_with fail
          refine bodyPost_ret (results_tmp4 rfl _ _ _) rfl ?_
          exact ⟨by rw [← HSe.out, e2.out]; rfl, hb5⟩
      · have u3 : (((S[i + 1]'hjS).toNat : Int) == 10) = false := by rw [beq_eq_false_iff_ne]; exact E10.out _ d10
        rw [if_neg (by rintro (h | h); exact d44 h; exact d10 h)] at HSe
        clear d44 d10
        go_wp2_with fail
        refine bodyPost_ret (results_tmp4 rfl _ _ _) rfl ?_
        exact ⟨by rw [← HSe.out]; rfl, HBz.out⟩
    · have t1 : decide ((i : Int) + 1 < (S.size : Int)) = false := by
        have := HZ.out
        simp; omega
      have H1 : Hid (VP = none) := by rw [← HSc.out, HD1.out acc i hlt]; exact rfl
      go_wp2_with fail
      refine bodyPost_ret (results_tmp4 rfl _ _ _) rfl ?_
      exact ⟨by rw [H1.out]; rfl, HBz.out⟩
end Go.Proofs.YtcbnelklilamgaaDoor
