/- The walk of Print, for a token that it writes. -/
import Derived.Test.YtenhaohooknkfaaDoorTokChk
import Derived.Lib.SmallJoins
import Derived.Lib.AppendIntMem
import Derived.Lib.ItoaMem
namespace Go.Proofs.YtenhaohooknkfaaDoor
open Go.RowKit Tk Go.Lib Go.Joins
abbrev Tab10 (w : World) : Prop := Lib.TabIs Tryd.prog w "internal/strconv.uint64pow10" .u64 Lib.pow10Tab
theorem Tab10.later {w w' : World} (h : Tab10 w) (hb : Below w.heap.size w w') : Tab10 w' :=
  tab_stays (g := 1) (by kernel_rfl) h hb (Nat.le_refl _)
theorem itoa_any (n : Int) (h0 : -9223372036854775808 ≤ n) (h1 : n ≤ 9223372036854775807) (w : World) (hT : Tab10 w) : Calls Tryd.prog 19 #[.int .i64 n] w fun e w' => e = .returned (.string ⟨(Lib.itoa n).toArray⟩) ∧ Below w.heap.size w w' :=
  (strconv_Itoa n h0 h1 w hT).mono fun e w' ⟨a, k, os, b⟩ => ⟨a, by rw [b]; exact below_grow _ w (Nat.le_refl _) k os⟩
theorem cat_cons (c : UInt8) (l : Src) : (⟨#[c]⟩ : ByteArray) ++ ⟨l.toArray⟩ = ⟨(c :: l).toArray⟩ := by
  apply ByteArray.ext; simp [ByteArray.data_append]
set_option maxRecDepth 100000 in
set_option maxHeartbeats 16000000 in
theorem print_ok (b : BTok) (h : VTok b) (a e : Int) (w : World) (hT : Tab10 w) :
    Calls Tryd.prog 13 #[tokV b.kind b.int ⟨b.text.toArray⟩ a e] w fun r w' => r = .returned (.tuple #[.string ⟨(prTok b).toArray⟩, .int .i64 0]) ∧ Below w.heap.size w w' := by
  have HCk := Lib.hid fun W => check_ok b h a e W
  have HTa : Hid (∀ W, Below w.heap.size w W → Tab10 W) := fun W hb => Tab10.later hT hb
  have hb0 := Blk.new w 28 #[.int .i64 b.kind, .int .i64 b.int, .string ⟨b.text.toArray⟩, .int .i64 a, .int .i64 e]
  have hl0 := (Below.refl w.heap.size w).alloc (Nat.le_refl _) (.cells #[.int .i64 b.kind, .int .i64 b.int, .string ⟨b.text.toArray⟩, .int .i64 a, .int .i64 e] 28)
  have hz0 : (w.alloc (.cells #[.int .i64 b.kind, .int .i64 b.int, .string ⟨b.text.toArray⟩, .int .i64 a, .int .i64 e] 28)).heap.size = w.heap.size + 1 := by simp
  have HB0 := Lib.hid hb0
  have HL0 := Lib.hid hl0
  have HZ0 := Lib.hid hz0
  clear hb0 hl0 hz0 hT
  unfold tokV at HCk ⊢
  cases h with
  | int n h1 h2 =>
    dsimp only at HCk HB0 HL0 HZ0 ⊢
    have HP : Hid (prTok ⟨1, n, []⟩ = Lib.itoa n) := rfl
    generalize prTok ⟨1, n, []⟩ = P at *
    go_enter Tryd.func13, Tryd.ntmps13
    go_wp2_with fail
    generalize w.alloc (.cells #[.int .i64 (1), .int .i64 (n), .string ⟨#[]⟩, .int .i64 a, .int .i64 e] 28) = w0 at *
    refine (HCk.out _).mono ?_
    rintro e1 w1 ⟨rfl, hb1⟩
    have hb2 := HB0.out.below hb1 (by have := HZ0.out; omega)
    have HL1 := Lib.hid (HL0.out.trans (hb1.mono HL0.out.size))
    obtain ⟨t0, t1, t2, -, -⟩ := tok_cells hb2
    have tl := hb2.lt
    clear hb1 hb2
    go_wp2_with fail
    refine (itoa_any n (by omega) (by omega) _ (HTa.out _ HL1.out)).mono ?_
    rintro e2 w2 ⟨rfl, hb2⟩
    have HL2 := Lib.hid (HL1.out.trans (hb2.mono HL1.out.size))
    clear hb2
    go_wp2_with fail
    refine bodyPost_ret (v := .tuple #[.string ⟨(Lib.itoa n).toArray⟩, .int .i64 0]) (by simp [results, Tryd.results13, go_sem]) rfl ?_
    exact ⟨by rw [HP.out], HL2.out⟩
  | name s h0 h1 h2 =>
    dsimp only at HCk HB0 HL0 HZ0 ⊢
    obtain ⟨S, hS⟩ : ∃ S : ByteArray, S = ⟨s.toArray⟩ := ⟨_, rfl⟩
    rw [← hS] at HCk HB0 HL0 HZ0 ⊢
    have HS := Lib.hid hS
    have HP : Hid (prTok ⟨2, 0, s⟩ = 47 :: prName s) := rfl
    generalize prTok ⟨2, 0, s⟩ = P at *
    have HC : Hid (∀ W, Calls Tryd.prog 20 #[.string S] W fun e w' => e = .returned (.string ⟨(prName s).toArray⟩) ∧ Below W.heap.size W w') := fun W => by rw [hS]; exact prName_any s W (by omega)
    obtain ⟨V, hV⟩ : ∃ V : ByteArray, V = ⟨(prName s).toArray⟩ := ⟨_, rfl⟩
    rw [← hV] at HC
    have HV := Lib.hid hV
    have hVz : V.size ≤ 1000 := by rw [hV, int_size]; have := prName_le s; omega
    clear hS hV h0 h1 h2
    go_enter Tryd.func13, Tryd.ntmps13
    go_wp2_with fail
    generalize w.alloc (.cells #[.int .i64 (2), .int .i64 (0), .string S, .int .i64 a, .int .i64 e] 28) = w0 at *
    refine (HCk.out _).mono ?_
    rintro e1 w1 ⟨rfl, hb1⟩
    have hb2 := HB0.out.below hb1 (by have := HZ0.out; omega)
    have HL1 := Lib.hid (HL0.out.trans (hb1.mono HL0.out.size))
    obtain ⟨t0, t1, t2, -, -⟩ := tok_cells hb2
    have tl := hb2.lt
    clear hb1 hb2
    go_wp2_with fail
    refine (HC.out _).mono ?_
    rintro e2 w2 ⟨rfl, hb2⟩
    have HL2 := Lib.hid (HL1.out.trans (hb2.mono HL1.out.size))
    clear hb2
    go_wp2_with fail
    refine bodyPost_ret (v := .tuple #[.string (⟨#[47]⟩ ++ V), .int .i64 0]) (by simp [results, Tryd.results13, go_sem]) rfl ?_
    exact ⟨by rw [HP.out, HV.out, cat_cons], HL2.out⟩
  | text s h1 =>
    dsimp only at HCk HB0 HL0 HZ0 ⊢
    obtain ⟨S, hS⟩ : ∃ S : ByteArray, S = ⟨s.toArray⟩ := ⟨_, rfl⟩
    rw [← hS] at HCk HB0 HL0 HZ0 ⊢
    have HS := Lib.hid hS
    have HP : Hid (prTok ⟨3, 0, s⟩ = prText s) := rfl
    generalize prTok ⟨3, 0, s⟩ = P at *
    have HC : Hid (∀ W, Calls Tryd.prog 21 #[.string S] W fun e w' => e = .returned (.string ⟨(prText s).toArray⟩) ∧ Below W.heap.size W w') := fun W => by rw [hS]; exact prText_any s W (by omega)
    obtain ⟨V, hV⟩ : ∃ V : ByteArray, V = ⟨(prText s).toArray⟩ := ⟨_, rfl⟩
    rw [← hV] at HC
    have HV := Lib.hid hV
    clear hS hV h1
    go_enter Tryd.func13, Tryd.ntmps13
    go_wp2_with fail
    generalize w.alloc (.cells #[.int .i64 (3), .int .i64 (0), .string S, .int .i64 a, .int .i64 e] 28) = w0 at *
    refine (HCk.out _).mono ?_
    rintro e1 w1 ⟨rfl, hb1⟩
    have hb2 := HB0.out.below hb1 (by have := HZ0.out; omega)
    have HL1 := Lib.hid (HL0.out.trans (hb1.mono HL0.out.size))
    obtain ⟨t0, t1, t2, -, -⟩ := tok_cells hb2
    have tl := hb2.lt
    clear hb1 hb2
    go_wp2_with fail
    refine (HC.out _).mono ?_
    rintro e2 w2 ⟨rfl, hb2⟩
    have HL2 := Lib.hid (HL1.out.trans (hb2.mono HL1.out.size))
    clear hb2
    go_wp2_with fail
    refine bodyPost_ret (v := .tuple #[.string V, .int .i64 0]) (by simp [results, Tryd.results13, go_sem]) rfl ?_
    exact ⟨by rw [HP.out, HV.out], HL2.out⟩
  | ref n h1 h2 =>
    dsimp only at HCk HB0 HL0 HZ0 ⊢
    have HP : Hid (prTok ⟨4, n, []⟩ = 64 :: Lib.itoa n) := rfl
    generalize prTok ⟨4, n, []⟩ = P at *
    obtain ⟨V, hV⟩ : ∃ V : ByteArray, V = ⟨(Lib.itoa (n : Int)).toArray⟩ := ⟨_, rfl⟩
    have HI : Hid (∀ W, Tab10 W → Calls Tryd.prog 19 #[.int .i64 (n : Int)] W fun e w' => e = .returned (.string V) ∧ Below W.heap.size W w') := fun W h => by rw [hV]; exact itoa_any n (by omega) (by omega) W h
    have HV := Lib.hid hV
    have hVz : V.size ≤ 1000 := by rw [hV, int_size, itoa_nat]; have := dec_len 3 n (by omega); omega
    clear hV
    go_enter Tryd.func13, Tryd.ntmps13
    go_wp2_with fail
    generalize w.alloc (.cells #[.int .i64 (4), .int .i64 (n : Int), .string ⟨#[]⟩, .int .i64 a, .int .i64 e] 28) = w0 at *
    refine (HCk.out _).mono ?_
    rintro e1 w1 ⟨rfl, hb1⟩
    have hb2 := HB0.out.below hb1 (by have := HZ0.out; omega)
    have HL1 := Lib.hid (HL0.out.trans (hb1.mono HL0.out.size))
    obtain ⟨t0, t1, t2, -, -⟩ := tok_cells hb2
    have tl := hb2.lt
    clear hb1 hb2
    go_wp2_with fail
    refine (HI.out _ (HTa.out _ HL1.out)).mono ?_
    rintro e2 w2 ⟨rfl, hb2⟩
    have HL2 := Lib.hid (HL1.out.trans (hb2.mono HL1.out.size))
    clear hb2
    go_wp2_with fail
    refine bodyPost_ret (v := .tuple #[.string (⟨#[64]⟩ ++ V), .int .i64 0]) (by simp [results, Tryd.results13, go_sem]) rfl ?_
    exact ⟨by rw [HP.out, HV.out, cat_cons], HL2.out⟩
  | word s hw =>
    dsimp only at HCk HB0 HL0 HZ0 ⊢
    obtain ⟨S, hS⟩ : ∃ S : ByteArray, S = ⟨s.toArray⟩ := ⟨_, rfl⟩
    rw [← hS] at HCk HB0 HL0 HZ0 ⊢
    have HS := Lib.hid hS
    have HP : Hid (prTok ⟨5, 0, s⟩ = s) := rfl
    generalize prTok ⟨5, 0, s⟩ = P at *
    clear hS hw
    go_enter Tryd.func13, Tryd.ntmps13
    go_wp2_with fail
    generalize w.alloc (.cells #[.int .i64 (5), .int .i64 (0), .string S, .int .i64 a, .int .i64 e] 28) = w0 at *
    refine (HCk.out _).mono ?_
    rintro e1 w1 ⟨rfl, hb1⟩
    have hb2 := HB0.out.below hb1 (by have := HZ0.out; omega)
    have HL1 := Lib.hid (HL0.out.trans (hb1.mono HL0.out.size))
    obtain ⟨t0, t1, t2, -, -⟩ := tok_cells hb2
    have tl := hb2.lt
    clear hb1 hb2
    go_wp2_with fail
    refine bodyPost_ret (v := .tuple #[.string S, .int .i64 0]) (by simp [results, Tryd.results13, go_sem]) rfl ?_
    exact ⟨by rw [HP.out, HS.out], HL1.out⟩
  | list =>
    dsimp only at HCk HB0 HL0 HZ0 ⊢
    have HP : Hid (prTok ⟨6, 0, []⟩ = [91]) := rfl
    generalize prTok ⟨6, 0, []⟩ = P at *
    go_enter Tryd.func13, Tryd.ntmps13
    go_wp2_with fail
    generalize w.alloc (.cells #[.int .i64 (6), .int .i64 (0), .string ⟨#[]⟩, .int .i64 a, .int .i64 e] 28) = w0 at *
    refine (HCk.out _).mono ?_
    rintro e1 w1 ⟨rfl, hb1⟩
    have hb2 := HB0.out.below hb1 (by have := HZ0.out; omega)
    have HL1 := Lib.hid (HL0.out.trans (hb1.mono HL0.out.size))
    obtain ⟨t0, t1, t2, -, -⟩ := tok_cells hb2
    have tl := hb2.lt
    clear hb1 hb2
    go_wp2_with fail
    refine bodyPost_ret (v := .tuple #[.string ⟨#[91]⟩, .int .i64 0]) (by simp [results, Tryd.results13, go_sem]) rfl ?_
    exact ⟨by rw [HP.out], (HL1.out.alloc HL1.out.size _)⟩
  | listEnd =>
    dsimp only at HCk HB0 HL0 HZ0 ⊢
    have HP : Hid (prTok ⟨7, 0, []⟩ = [93]) := rfl
    generalize prTok ⟨7, 0, []⟩ = P at *
    go_enter Tryd.func13, Tryd.ntmps13
    go_wp2_with fail
    generalize w.alloc (.cells #[.int .i64 (7), .int .i64 (0), .string ⟨#[]⟩, .int .i64 a, .int .i64 e] 28) = w0 at *
    refine (HCk.out _).mono ?_
    rintro e1 w1 ⟨rfl, hb1⟩
    have hb2 := HB0.out.below hb1 (by have := HZ0.out; omega)
    have HL1 := Lib.hid (HL0.out.trans (hb1.mono HL0.out.size))
    obtain ⟨t0, t1, t2, -, -⟩ := tok_cells hb2
    have tl := hb2.lt
    clear hb1 hb2
    go_wp2_with fail
    refine bodyPost_ret (v := .tuple #[.string ⟨#[93]⟩, .int .i64 0]) (by simp [results, Tryd.results13, go_sem]) rfl ?_
    exact ⟨by rw [HP.out], (HL1.out.alloc HL1.out.size _)⟩
  | dict =>
    dsimp only at HCk HB0 HL0 HZ0 ⊢
    have HP : Hid (prTok ⟨8, 0, []⟩ = [60, 60]) := rfl
    generalize prTok ⟨8, 0, []⟩ = P at *
    go_enter Tryd.func13, Tryd.ntmps13
    go_wp2_with fail
    generalize w.alloc (.cells #[.int .i64 (8), .int .i64 (0), .string ⟨#[]⟩, .int .i64 a, .int .i64 e] 28) = w0 at *
    refine (HCk.out _).mono ?_
    rintro e1 w1 ⟨rfl, hb1⟩
    have hb2 := HB0.out.below hb1 (by have := HZ0.out; omega)
    have HL1 := Lib.hid (HL0.out.trans (hb1.mono HL0.out.size))
    obtain ⟨t0, t1, t2, -, -⟩ := tok_cells hb2
    have tl := hb2.lt
    clear hb1 hb2
    go_wp2_with fail
    refine bodyPost_ret (v := .tuple #[.string ⟨#[60, 60]⟩, .int .i64 0]) (by simp [results, Tryd.results13, go_sem]) rfl ?_
    exact ⟨by rw [HP.out], (HL1.out.alloc HL1.out.size _)⟩
  | dictEnd =>
    dsimp only at HCk HB0 HL0 HZ0 ⊢
    have HP : Hid (prTok ⟨9, 0, []⟩ = [62, 62]) := rfl
    generalize prTok ⟨9, 0, []⟩ = P at *
    go_enter Tryd.func13, Tryd.ntmps13
    go_wp2_with fail
    generalize w.alloc (.cells #[.int .i64 (9), .int .i64 (0), .string ⟨#[]⟩, .int .i64 a, .int .i64 e] 28) = w0 at *
    refine (HCk.out _).mono ?_
    rintro e1 w1 ⟨rfl, hb1⟩
    have hb2 := HB0.out.below hb1 (by have := HZ0.out; omega)
    have HL1 := Lib.hid (HL0.out.trans (hb1.mono HL0.out.size))
    obtain ⟨t0, t1, t2, -, -⟩ := tok_cells hb2
    have tl := hb2.lt
    clear hb1 hb2
    go_wp2_with fail
    refine bodyPost_ret (v := .tuple #[.string ⟨#[62, 62]⟩, .int .i64 0]) (by simp [results, Tryd.results13, go_sem]) rfl ?_
    exact ⟨by rw [HP.out], (HL1.out.alloc HL1.out.size _)⟩
end Go.Proofs.YtenhaohooknkfaaDoor
