/- The walk of Next. -/
import Derived.Test.YtenhaohooknkfaaDoorTokNext
namespace Go.Proofs.YtenhaohooknkfaaDoor
open Go.RowKit Tk
/-- What is read at place p where l is left: a token's parts (its places too), the place, the code. -/
def NxRel (p : Nat) (l : Src) (k i : Int) (t : ByteArray) (a e f er : Int) : Prop :=
  (l.drop (skipN false l) = [] ∧ k = 0 ∧ er = 0) ∨
  (∃ x r, l.drop (skipN false l) = x :: r ∧ one (x :: r) = .error er ∧ er ≠ 0 ∧ f = (p + skipN false l : Nat)) ∨
  (∃ x r b n, l.drop (skipN false l) = x :: r ∧ one (x :: r) = .ok (b, n) ∧ k = b.kind ∧ i = b.int ∧ t = ⟨b.text.toArray⟩ ∧ a = (p + skipN false l : Nat) ∧ e = (p + skipN false l + n : Nat) ∧ er = 0)
theorem nextV_form (p : Nat) (l : Src) : ∃ k i t a e f er, nextV p l = .tuple #[tokV k i t a e, .int .i64 f, .int .i64 er] ∧ NxRel p l k i t a e f er := by
  unfold nextV nextW NxRel
  cases h : l.drop (skipN false l) with
  | nil => exact ⟨_, _, _, _, _, _, _, rfl, .inl ⟨rfl, rfl, rfl⟩⟩
  | cons x r =>
    dsimp only
    cases ho : one (x :: r) with
    | error er => exact ⟨_, _, _, _, _, _, _, rfl, .inr (.inl ⟨x, r, rfl, ho, one_err ho, rfl⟩)⟩
    | ok tn =>
      obtain ⟨b, n⟩ := tn
      exact ⟨_, _, _, _, _, _, _, rfl, .inr (.inr ⟨x, r, b, n, rfl, ho, rfl, rfl, rfl, rfl, rfl, rfl⟩)⟩
def NextPost (p : Nat) (l : Src) (w : World) (e : Ending) (w' : World) : Prop :=
  ∃ k i t a en f er, e = .returned (.tuple #[tokV k i t a en, .int .i64 f, .int .i64 er]) ∧ NxRel p l k i t a en f er ∧ Below w.heap.size w w'
theorem nx_zero {p : Nat} {l : Src} {k i : Int} {t : ByteArray} {a e f f2 : Int} (h : NxRel p l k i t a e f 0) : NxRel p l k i t a e f2 0 := by
  rcases h with h | ⟨_, _, _, _, h, _⟩ | h
  · exact .inl h
  · exact absurd rfl h
  · exact .inr (.inr h)
set_option maxRecDepth 100000 in
set_option maxHeartbeats 4000000 in
theorem Next_any (S : ByteArray) (p : Nat) (w : World) (hp : p ≤ S.size) (hs : S.size ≤ 8192) :
    Calls Tryd.prog 17 #[.string S, .int .i64 p] w (NextPost p ((bys S).drop p) w) := by
  have HN := Lib.hid fun W => next_any S p W hp (by omega)
  obtain ⟨k, i, t, a, en, f, er, hv, hr⟩ := nextV_form p ((bys S).drop p)
  rw [hv] at HN
  have HR := Lib.hid hr
  have hb0 := Blk.new w 28 #[.int .i64 0, .int .i64 0, .string ⟨#[]⟩, .int .i64 0, .int .i64 0]
  have hf0 := (Below.refl w.heap.size w).alloc (Nat.le_refl _) (.cells #[.int .i64 0, .int .i64 0, .string ⟨#[]⟩, .int .i64 0, .int .i64 0] 28)
  have hz0 : (w.alloc (.cells #[.int .i64 0, .int .i64 0, .string ⟨#[]⟩, .int .i64 0, .int .i64 0] 28)).heap.size = w.heap.size + 1 := by simp
  have HB0 := Lib.hid hb0
  have HF0 := Lib.hid hf0
  have HZ0 := Lib.hid hz0
  have hd1 : decide ((8192 : Int) < (S.size : Int)) = false := decide_eq_false (by omega)
  have hd2 : decide ((p : Int) < 0) = false := decide_eq_false (by omega)
  have hd3 : decide ((S.size : Int) < (p : Int)) = false := decide_eq_false (by omega)
  have hd4 : ¬ ((8192 : Int) < (S.size : Int)) := by omega
  have hd5 : ¬ ((S.size : Int) < (p : Int)) := by omega
  have hd6 : (0 : Int) ≤ (p : Int) := by omega
  clear hv hr hb0 hf0 hz0
  go_enter Tryd.func17, Tryd.ntmps17
  go_wp2_with fail
  generalize w.alloc (.cells #[.int .i64 0, .int .i64 0, .string ⟨#[]⟩, .int .i64 0, .int .i64 0] 28) = w0 at *
  refine (HN.out _).mono ?_
  rintro e w3 ⟨rfl, hb⟩
  have hb3 := HB0.out.below hb (by have := HZ0.out; omega)
  have hl3 := HF0.out.trans (hb.mono HF0.out.size)
  have tl3 : w.heap.size < w3.heap.size := by have := hb.size; have := HZ0.out; omega
  clear hb hd1 hd2 hd3 hd4 hd5 hd6
  unfold tokV
  go_upto_region 6 with (fail)
  have hb4 := hb3.alloc (.cells #[.int .i64 k, .int .i64 i, .string t, .int .i64 a, .int .i64 en] 28)
  have hn4 := Blk.new w3 28 #[.int .i64 k, .int .i64 i, .string t, .int .i64 a, .int .i64 en]
  have hl4 := hl3.alloc hl3.size (.cells #[.int .i64 k, .int .i64 i, .string t, .int .i64 a, .int .i64 en] 28)
  have tl4 : w3.heap.size < (w3.alloc (.cells #[.int .i64 k, .int .i64 i, .string t, .int .i64 a, .int .i64 en] 28)).heap.size := by simp
  generalize w3.alloc (.cells #[.int .i64 k, .int .i64 i, .string t, .int .i64 a, .int .i64 en] 28) = w4 at *
  obtain ⟨n0, n1, n2, n3, n4⟩ := tok_cells hn4
  obtain ⟨t0, t1, t2, t3, t4⟩ := tok_cells hb4
  have f0 := Blk.frozen hb4 0
  have f1 := Blk.frozen hb4 1
  have f2 := Blk.frozen hb4 2
  have f3 := Blk.frozen hb4 3
  have f4 := Blk.frozen hb4 4
  have tl6 : w.heap.size < w4.heap.size := by omega
  have HB5 := Lib.hid hb4
  have HL5 := Lib.hid hl4
  clear hb3 hl3 hb4 hn4 hl4
  by_cases he : er = 0
  · have hr2 : NxRel p ((bys S).drop p) k i t a en 0 0 := by have := HR.out; rw [he] at this; exact nx_zero this
    have HR2 := Lib.hid hr2
    subst he
    clear HR hr2
    go_wp2_with fail
    have hbz := tok_put HB5.out (.int .i64 k) (.int .i64 i) (.string t) (.int .i64 a) (.int .i64 en)
    have hlz := tok_below HL5.out (Nat.le_refl _) (.int .i64 k) (.int .i64 i) (.string t) (.int .i64 a) (.int .i64 en)
    refine bodyPost_ret (v := .tuple #[tokV k i t a en, .int .i64 0, .int .i64 0]) ?_ rfl ?_
    · obtain ⟨z0, z1, z2, z3, z4⟩ := tok_cells hbz
      clear hbz
      generalize World.setCell _ _ _ = W at *
      simp [results, Tryd.results17, go_sem, tokV, z0, z1, z2, z3, z4]
    · exact ⟨k, i, t, a, en, 0, 0, rfl, HR2.out, hlz⟩
  · have he2 : (er == 0) = false := by simpa using he
    clear he
    go_wp2_with fail
    have hbz := tok_put HB5.out (.int .i64 k) (.int .i64 i) (.string t) (.int .i64 a) (.int .i64 en)
    have hlz := tok_below HL5.out (Nat.le_refl _) (.int .i64 k) (.int .i64 i) (.string t) (.int .i64 a) (.int .i64 en)
    refine bodyPost_ret (v := .tuple #[tokV k i t a en, .int .i64 f, .int .i64 er]) ?_ rfl ?_
    · obtain ⟨z0, z1, z2, z3, z4⟩ := tok_cells hbz
      clear hbz
      generalize World.setCell _ _ _ = W at *
      simp [results, Tryd.results17, go_sem, tokV, z0, z1, z2, z3, z4]
    · exact ⟨k, i, t, a, en, f, er, rfl, HR.out, hlz⟩
set_option maxRecDepth 100000 in
set_option maxHeartbeats 4000000 in
/-- A source that is too long. -/
theorem Next_long (S : ByteArray) (p : Int) (w : World) (hs : 8192 < S.size) :
    Calls Tryd.prog 17 #[.string S, .int .i64 p] w fun e w' => e = .returned (.tuple #[tokV 0 0 ⟨#[]⟩ 0 0, .int .i64 0, .int .i64 2]) ∧ Below w.heap.size w w' := by
  have hb0 := Blk.new w 28 #[.int .i64 0, .int .i64 0, .string ⟨#[]⟩, .int .i64 0, .int .i64 0]
  have hf0 := (Below.refl w.heap.size w).alloc (Nat.le_refl _) (.cells #[.int .i64 0, .int .i64 0, .string ⟨#[]⟩, .int .i64 0, .int .i64 0] 28)
  have HB0 := Lib.hid hb0
  have HF0 := Lib.hid hf0
  have hd4 : ((8192 : Int) < (S.size : Int)) := by omega
  clear hb0 hf0
  go_enter Tryd.func17, Tryd.ntmps17
  go_wp2_with fail
  refine bodyPost_ret (v := .tuple #[tokV 0 0 ⟨#[]⟩ 0 0, .int .i64 0, .int .i64 2]) ?_ rfl ?_
  · obtain ⟨z0, z1, z2, z3, z4⟩ := tok_cells HB0.out
    simp [results, Tryd.results17, go_sem, tokV]
  · exact ⟨rfl, HF0.out⟩
end Go.Proofs.YtenhaohooknkfaaDoor
