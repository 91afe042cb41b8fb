/- The walks of strings.IndexRune at runes above 127, and of strings.IndexAny and ContainsAny at any text. -/
import Derived.Test.YtcbnelklilamgaaDoorVryMem
import Derived.Test.YtcbnelklilamgaaDoorVryUtf
import Derived.Test.YtcbnelklilamgaaDoorLaid
import Derived.Test.YtcbnelklilamgaaDoorLaidA
import Derived.Laws.RangeAny
import Derived.Deep.QuietTactic
import Derived.BigQuiet
import Derived.Deep.LoopGhost
import Derived.Lib.OthersKept
import Derived.Lib.IndexBytes
import Derived.Laws.Runes
import Derived.WalkMore
import Derived.Deep.DeepCutAuto
import Derived.Deep.CutBlock
namespace Go.Proofs.YtcbnelklilamgaaDoor
open Go.RowKit Vr
theorem byte_none : ∀ (l : List UInt8) (c : UInt8), (∀ b ∈ l, b ≠ c) → Lib.indexByte l c = -1
  | [], _, _ => rfl
  | b :: l, c, h => by
    have h1 : (b == c) = false := by rw [beq_eq_false_iff_ne]; exact h b (by simp)
    have h2 := byte_none l c fun x hx => h x (by simp [hx])
    rw [Lib.indexByte, h1, h2]
    rfl
theorem extract_mem {s : ByteArray} {a b : Nat} {x : UInt8} (hs : ∀ (i : Nat) (h : i < s.size), (s[i]'h).toNat < 128) (hx : x ∈ (s.extract a b).data.toList) : x.toNat < 128 := by
  have h1 : x ∈ s.data.toList := by
    rw [ByteArray.data_extract, Array.toList_extract] at hx
    exact List.mem_of_mem_drop (List.mem_of_mem_take hx)
  obtain ⟨i, hi, rfl⟩ := List.getElem_of_mem h1
  have hi2 : i < s.size := by rw [Array.length_toList] at hi; exact hi
  have := Lib.data_getElem? s i hi2
  rw [List.getElem?_eq_getElem hi] at this
  rw [Option.some.inj this]
  exact hs i hi2
set_option maxRecDepth 100000 in
set_option maxHeartbeats 8000000 in
theorem rune_high (s : ByteArray) (r : Int) (w : World) (hs : ∀ (i : Nat) (h : i < s.size), (s[i]'h).toNat < 128) (h : 128 ≤ r) (hv : Utf8.valid r = true) :
    Calls Tryd.prog 53 #[.string s, .int .i32 r] w fun e w' => e = .returned (.int .i64 (-1)) ∧ Below w.heap.size w w' := by
  have HS := Lib.hid hs
  have t0 : decide (r < 128) = false := decide_eq_false (by omega)
  have t1 : decide ((0 : Int) ≤ r) = true := decide_eq_true (by omega)
  clear hs
  by_cases h1 : r = 65533
  · subst h1
    go_enter Tryd.func53, Tryd.ntmps53
    go_wp2_with fail
    go_loopg [5, 6] s.size (fun g _ _ wx => ∃ i : Nat, i + g = s.size ∧ wx = w.iter s i)
    case atStart => exact ⟨0, by omega, rfl⟩
    case round =>
      obtain ⟨i, hig, rfl⟩ := hrel
      cases gk with
      | zero =>
        obtain rfl : i = s.size := by omega
        have hnx := run_next_end (P := Tryd.prog) w s s.size
        go_wp2
        go_ret
        exact ⟨rfl, (Below.refl _ w).alloc (Nat.le_refl _) _⟩
      | succ g =>
        have hi : i < s.size := by omega
        have hx := HS.out i hi
        have hnx := fun ty => run_next_ascii (P := Tryd.prog) w s i ty hi hx
        generalize (s[i]'hi).toNat = x at *
        have u0 : ((x : Int) == 65533) = false := by rw [beq_eq_false_iff_ne]; omega
        go_wp2_with fail
        go_roundg g
        case measure => omega
        case rel => exact ⟨i + 1, by omega, rfl⟩
  · have t2 : (r == 65533) = false := by rw [beq_eq_false_iff_ne]; exact h1
    obtain ⟨pre, c, hE, hc, hp1, hp2⟩ := enc_high r h hv
    have HVa := Lib.hid (fun W => utf8_ValidRune r W)
    go_enter Tryd.func53, Tryd.ntmps53
    have hvr : Lib.validRune r = true := by
      unfold Lib.validRune
      simp only [Utf8.valid, Bool.or_eq_true, Bool.and_eq_true, decide_eq_true_eq] at hv
      rw [decide_eq_true_eq]
      omega
    go_wp2_with fail
    refine (HVa.out _).mono ?_
    rintro e w' ⟨rfl, rfl⟩
    rw [hvr]
    clear hv HVa hvr t0 t1 t2 h1 h
    have hsz : (Utf8.encode r).size = pre.length + 1 := by
      have := congrArg List.length hE
      rw [List.length_append, Array.length_toList] at this
      exact this
    have hlast : ∀ hh : pre.length < (Utf8.encode r).size, (Utf8.encode r)[pre.length]'hh = c := fun hh => by
      have h1 := Lib.data_getElem? (Utf8.encode r) pre.length hh
      rw [hE, List.getElem?_append_right (Nat.le_refl _), Nat.sub_self] at h1
      exact (Option.some.inj h1).symm
    clear hE
    have hcv := fun W => @run_convert_int_string Tryd.prog W 21 9 .i32 r (by rw [Tryd.underlying21]; rfl) Tryd.underlying9
    generalize Utf8.encode r = E at *
    generalize pre.length = m at *
    have hsi : (E.size : Int) - 1 = m := by omega
    go_wp2_with (go_step3)
    go_loopw [9, 10, 11, 12] (fun v9 _ _ _ wr => True ∧ v9 = .int .i64 m ∧ wr = w') (fun _ _ _ _ _ => 0)
    case atStart => exact ⟨trivial, by go_num, rfl⟩
    case round =>
      obtain ⟨-, rfl, rfl⟩ := hrel
      by_cases hms : m < s.size
      · have t1 : decide ((m : Int) < (s.size : Int)) = true := by simp; omega
        have hx := HS.out m hms
        have hl := hlast (by omega)
        have hne : (((s[m]'hms).toNat : Int) != (c.toNat : Int)) = true := by rw [bne_iff_ne]; omega
        go_wp2_with (go_step3)
        have hw1 : IntKind.i64.wrap ((m : Int) + 1) = (m : Int) + 1 := wrap_small _ (by omega) (by omega)
        have q0 : (0 : Int) ≤ (m : Int) + 1 := by omega
        have q1 : (m : Int) + 1 ≤ (s.size : Int) := by omega
        have hI : Hid (∀ a b W, Calls Tryd.prog 72 #[.string (s.extract a b), .int .u8 (c.toNat : Int)] W fun e w' => e = .returned (.int .i64 (-1)) ∧ w' = W) := fun a b W => by
          have h1 := strings_IndexByte (s.extract a b) (c.toNat : Int) W
          rw [byte_none _ _ fun x hx e => by
            have h2 := extract_mem HS.out hx
            rw [e] at h2
            simp at h2
            omega] at h1
          exact h1
        go_quiet (fail)
        go_wp2_with (go_step3)
        go_region_with (go_at_call 72; refine (hI.out _ _ _).mono ?_; rintro e w5 ⟨rfl, rfl⟩)
        all_goals
          go_wp2_with (go_step3)
          rw [Exit.noGoto_ret]
          simp +zetaDelta only [Exit.inBlock, Exit.then, Exit.noGoto_ret]
          go_ret
          exact ⟨rfl, below_drewN (Below.refl _ _) _⟩
      · have t1 : decide ((m : Int) < (s.size : Int)) = false := by simp; omega
        go_wp2_with (go_step3)
        rw [Exit.noGoto_ret]
        go_ret
        exact ⟨rfl, Below.refl _ _⟩
theorem below_iterAt {B k pos : Nat} {a w : World} {s : ByteArray} (h : Below B a w) (hk : B ≤ k) : Below B a (w.iterAt k s pos) :=
  ⟨h.os, h.tape, h.output, by simpa [World.iterAt] using h.size, fun b hb => by
    have hne : k ≠ b := by omega
    simp only [World.iterAt]
    rw [Array.getElem?_setIfInBounds_ne hne]
    exact h.block b hb⟩
theorem not_in {chars : ByteArray} (hch : ∀ (i : Nat) (h : i < chars.size), (chars[i]'h).toNat < 128) {x : UInt8} (hx : 128 ≤ x.toNat) : chars.data.toList.contains x = false := by
  rw [Bool.eq_false_iff]
  intro h
  have h1 : x ∈ chars.data.toList := by simpa using h
  obtain ⟨i, hi, rfl⟩ := List.getElem_of_mem h1
  have hi2 : i < chars.size := by rw [Array.length_toList] at hi; exact hi
  have h2 := Lib.data_getElem? chars i hi2
  rw [List.getElem?_eq_getElem hi] at h2
  have h3 := Option.some.inj h2
  rw [h3] at hx
  have := hch i hi2
  omega
theorem noany_many {s chars : ByteArray} {i n : Nat} (hno : Lib.NoAny s.data.toList chars.data.toList i) (hch : ∀ (i : Nat) (h : i < chars.size), (chars[i]'h).toNat < 128)
    (hb : ∀ k, k < n → ∀ h2 : i + k < s.size, 128 ≤ (s[i + k]'h2).toNat) : Lib.NoAny s.data.toList chars.data.toList (i + n) := fun j b hj e => by
  rcases Nat.lt_or_ge j i with h1 | h1
  · exact hno j b h1 e
  · have hl : j < s.size := by
      have := (List.getElem?_eq_some_iff.1 e).1
      rw [Array.length_toList] at this
      exact this
    have h2 := Lib.data_getElem? s j hl
    rw [e] at h2
    have h3 := Option.some.inj h2
    refine not_in hch ?_
    rw [h3]
    have h4 := hb (j - i) (by omega) (by omega)
    have e2 : i + (j - i) = j := by omega
    simp only [e2] at h4
    exact h4
theorem use_set (n : Int) (w : World) : Calls Tryd.prog 54 #[.int .i64 n] w fun e w' => e = .returned (.bool (decide (8 < n))) ∧ w' = w := by
  go_enter Tryd.func54, Tryd.ntmps54
  go_wp2
  go_ret
  exact ⟨rfl, rfl⟩
set_option maxRecDepth 100000 in
set_option maxHeartbeats 8000000 in
/-- strings.IndexAny at a short text of any bytes. -/
theorem any_short (s chars : ByteArray) (w : World) (h2 : 2 ≤ chars.size) (h8 : s.size ≤ 8) (hch : ∀ (i : Nat) (h : i < chars.size), (chars[i]'h).toNat < 128) :
    Calls Tryd.prog 41 #[.string s, .string chars] w fun e w' => e = .returned (.int .i64 (Lib.indexAny s.data.toList chars.data.toList)) ∧ Below w.heap.size w w' := by
  have hemp : chars.toList.isEmpty = false := by
    rw [Lib.toList_data]
    cases h : chars.data.toList with
    | nil => have := Lib.size_eq chars; rw [h, List.length_nil] at this; omega
    | cons _ _ => rfl
  have hn1 : ((chars.size : Int) == 1) = false := beq_eq_false_iff_ne.2 (by omega)
  have h8z : decide ((8 : Int) < (s.size : Int)) = false := decide_eq_false (by omega)
  have HH := Lib.hid (fun (r : Int) W (h1 : 128 ≤ r) (h2 : Utf8.valid r = true) => rune_high chars r W hch h1 h2)
  have HLo := Lib.hid (fun (r : Int) W (h1 : 0 ≤ r) (h2 : r < 128) => strings_IndexRune_ascii chars r W h1 h2)
  have HCh := Lib.hid hch
  clear hch
  go_enter Tryd.func41, Tryd.ntmps41
  go_wp2_with fail
  refine (use_set _ _).mono ?_
  rintro e w' ⟨rfl, rfl⟩
  rw [h8z]
  go_wp2_with fail
  go_loopg [9, 10] s.size (fun g _ _ wx => ∃ i : Nat, i ≤ s.size ∧ s.size ≤ i + g ∧ Below w'.heap.size w' wx ∧ wx.heap[w'.heap.size]? = some (.stringIter s i) ∧ Lib.NoAny s.data.toList chars.data.toList i)
  case atStart => exact ⟨0, by omega, by omega, (Below.refl _ w').alloc (Nat.le_refl _) _, World.iter_heap _ _ _, Lib.NoAny.zero _ _⟩
  case round =>
    obtain ⟨i, hi1, hi2, hbx, hit, hno⟩ := hrel
    have HN := Lib.hid hno
    have HBx := Lib.hid hbx
    clear hno hbx
    by_cases hi : i < s.size
    case neg =>
      obtain rfl : i = s.size := by omega
      have hnx := fun ty => Lib.run_next_end_at (P := Tryd.prog) wr w'.heap.size s s.size ty hit (by omega)
      clear hit
      go_wp2_with fail
      go_ret
      exact ⟨by rw [Lib.indexAny_none (by rw [← Lib.size_eq]; exact HN.out)]; rfl, HBx.out⟩
    cases gk with
    | zero => omega
    | succ g =>
      obtain ⟨x, hx⟩ : ∃ x : UInt8, s[i]'hi = x := ⟨_, rfl⟩
      have hxl : s.data.toList[i]? = some x := by rw [← hx]; exact Lib.data_getElem? s i hi
      by_cases h128 : x.toNat < 128
      · have hnx := fun ty => Lib.run_next_ascii_at (P := Tryd.prog) wr w'.heap.size s i ty hit hi (by rw [hx]; exact h128)
        rw [hx] at hnx
        have HI := Lib.hid (Lib.iterAt_heap wr w'.heap.size s i (i + 1) hit)
        have HBy := Lib.hid (below_iterAt (s := s) (pos := i + 1) HBx.out (Nat.le_refl _))
        have hback : ((x.toNat : Int)).toNat.toUInt8 = x := by simp
        have HL2 := Lib.hid (fun W => HLo.out (x.toNat : Int) W (by omega) (by omega))
        rw [hback] at HL2
        have hcon := Lib.contains_iff_indexByte chars.data.toList x
        have Hx := Lib.hid hxl
        clear hit hx hxl hback HLo HH
        generalize wr.iterAt w'.heap.size s (i + 1) = wz at *
        generalize Lib.indexByte chars.data.toList x = ib at *
        cases hin : chars.data.toList.contains x with
        | false =>
          rw [hin] at hcon
          have hlt : decide ((0 : Int) ≤ ib) = false := hcon.symm
          clear hcon
          go_wp2_with fail
          refine (HL2.out _).mono ?_
          rintro e w5 ⟨rfl, rfl⟩
          go_wp2_with fail
          go_roundg g
          case measure => omega
          case rel => exact ⟨i + 1, by omega, by omega, HBy.out, HI.out, HN.out.succ Hx.out hin⟩
        | true =>
          rw [hin] at hcon
          have hlt : decide ((0 : Int) ≤ ib) = true := hcon.symm
          clear hcon
          go_wp2_with fail
          refine (HL2.out _).mono ?_
          rintro e w5 ⟨rfl, rfl⟩
          go_wp2_with fail
          go_ret
          exact ⟨by rw [Lib.indexAny_hit HN.out Hx.out hin]; rfl, HBy.out⟩
      · have hnx := fun ty => Lib.run_next_any_at (P := Tryd.prog) wr w'.heap.size s i ty hit hi
        have hd := dec_high s i hi (by rw [hx]; omega)
        have d1 := hd.1
        have d2 := hd.2.1
        have d3 := hd.2.2.1
        have d4 := hd.2.2.2.1
        have d5 := hd.2.2.2.2
        clear hd
        have HI := Lib.hid (Lib.iterAt_heap wr w'.heap.size s i (i + (Utf8.decode s i).2) hit)
        have HBy := Lib.hid (below_iterAt (s := s) (pos := i + (Utf8.decode s i).2) HBx.out (Nat.le_refl _))
        have HNn := Lib.hid (noany_many (n := (Utf8.decode s i).2) HN.out HCh.out fun k hk h2 => by
          rcases Nat.eq_zero_or_pos k with rfl | h0
          · have e0 : s[i + 0]'h2 = x := by rw [← hx]; rfl
            rw [e0]; omega
          · exact d5 k h0 hk h2)
        have HR := Lib.hid (fun W => HH.out ((Utf8.decode s i).1 : Int) W (by omega) d2)
        clear hit hx hxl HLo HH d5
        generalize wr.iterAt w'.heap.size s (i + (Utf8.decode s i).2) = wz at *
        generalize (Utf8.decode s i).2 = dn at *
        generalize (Utf8.decode s i).1 = dr at *
        go_wp2_with fail
        refine (HR.out _).mono ?_
        rintro e w5 ⟨rfl, hb5⟩
        have hlt3 : w'.heap.size < wz.heap.size := (Array.getElem?_eq_some_iff.1 HI.out).1
        have HI5 : Hid (w5.heap[w'.heap.size]? = some (.stringIter s (i + dn))) := (hb5.block _ hlt3).trans HI.out
        have HB5 := Lib.hid (HBy.out.trans (hb5.mono (by omega)))
        clear hb5
        go_wp2_with fail
        go_roundg g
        case measure => omega
        case rel => exact ⟨i + dn, by omega, by omega, HB5.out, HI5.out, HNn.out⟩
theorem low_list {chars : ByteArray} (hch : ∀ (i : Nat) (h : i < chars.size), (chars[i]'h).toNat < 128) : ∀ (j : Nat) b, chars.data.toList[j]? = some b → b.toNat < 128 := fun j b e => by
  have hl : j < chars.size := by
    have := (List.getElem?_eq_some_iff.1 e).1
    rw [Array.length_toList] at this
    exact this
  have h2 := Lib.data_getElem? chars j hl
  rw [e] at h2
  rw [Option.some.inj h2]
  exact hch j hl
theorem any_index (chars : List UInt8) : ∀ l : List UInt8, decide ((0 : Int) ≤ Lib.indexAny l chars) = l.any chars.contains
  | [] => by simp [Lib.indexAny]
  | b :: l => by
    have ih := any_index chars l
    have hg := Lib.indexAny_ge chars l
    rw [Lib.indexAny, List.any_cons]
    cases hb : chars.contains b with
    | true => simp
    | false =>
      rw [Bool.false_or, ← ih]
      by_cases h1 : Lib.indexAny l chars = -1
      · simp [h1]
      · have h2 : (Lib.indexAny l chars == -1) = false := by rw [beq_eq_false_iff_ne]; exact h1
        simp only [h2, Bool.false_eq_true, if_false]
        rw [decide_eq_decide]
        omega
/-- strings.IndexAny at any text below 2^32 bytes and two or more ASCII characters. -/
theorem index_any (s chars : ByteArray) (w : World) (h2 : 2 ≤ chars.size) (hs : s.size < 4294967281) (hch : ∀ (i : Nat) (h : i < chars.size), (chars[i]'h).toNat < 128) (hcs : chars.size < 4294967281) :
    Calls Tryd.prog 41 #[.string s, .string chars] w fun e w' => e = .returned (.int .i64 (Lib.indexAny s.data.toList chars.data.toList)) ∧ Below w.heap.size w w' := by
  rcases Nat.lt_or_ge 8 s.size with h8 | h8
  · have hz := zero_of_info (P := Tryd.prog) (show (Tryd.prog.info? 89).map (fun i => (i.zero, i.size)) = some (some (.agg (Array.replicate 256 (.bool false))), 256) by kernel_rfl)
    refine (strings_IndexAny_long hz.1 s chars w h2 h8 hs hcs (low_list hch)).mono fun e w' h => ?_
    obtain ⟨h1, rfl⟩ := h
    exact ⟨h1, ((Below.refl _ w).alloc (Nat.le_refl _) _).alloc (by simp) _⟩
  · exact any_short s chars w h2 h8 hch
theorem containsAny_any (s chars : ByteArray) (w : World) (h2 : 2 ≤ chars.size) (hs : s.size < 4294967281) (hch : ∀ (i : Nat) (h : i < chars.size), (chars[i]'h).toNat < 128) (hcs : chars.size < 4294967281) :
    Calls Tryd.prog 38 #[.string s, .string chars] w fun e w' => e = .returned (.bool (s.data.toList.any chars.data.toList.contains)) ∧ Below w.heap.size w w' := by
  have HI := Lib.hid (index_any s chars w h2 hs hch hcs)
  have hd : decide ((0 : Int) ≤ Lib.indexAny s.data.toList chars.data.toList) = s.data.toList.any chars.data.toList.contains := any_index _ _
  clear h2 hs hch hcs
  generalize Lib.indexAny s.data.toList chars.data.toList = r at *
  rw [← hd]
  clear hd
  go_enter Tryd.func38, Tryd.ntmps38
  go_wp2_with fail
  refine HI.out.mono ?_
  rintro e w2 ⟨rfl, hb⟩
  have HB := Lib.hid hb
  clear hb
  go_wp2_with fail
  go_ret
  exact ⟨rfl, HB.out⟩
end Go.Proofs.YtcbnelklilamgaaDoor
