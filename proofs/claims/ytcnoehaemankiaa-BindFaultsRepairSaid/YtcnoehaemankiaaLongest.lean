/- The walk of longest: an increasing part of an order, all of it if it increases. -/
import Derived.Test.YtcnoehaemankiaaMaxInts
import Derived.RegionTactic
import Derived.BigRegion
import Derived.Deep.QuietTactic
import Derived.BigQuiet
import Derived.StillTailTactics
namespace Go.Proofs.Ytcnoehaemankiaa
open Go.RowKit
def at_ (l : List Int) (i : Nat) : Int := l.getD i 0
def kat (K : List Nat) (i : Nat) : Nat := K.getD i 0
def Inc (o : List Int) : Prop := ∀ a b, a < b → b < o.length → at_ o a < at_ o b
/-- Positions below n, increasing, of increasing values. -/
structure Keep (o : List Int) (n : Nat) (K : List Nat) : Prop where
  lt : ∀ a, a < K.length → kat K a < n
  pos : ∀ a b, a < b → b < K.length → kat K a < kat K b
  val : ∀ a b, a < b → b < K.length → at_ o (kat K a) < at_ o (kat K b)
theorem Keep.nil (o : List Int) : Keep o 0 [] := ⟨fun a h => by simp at h, fun a b _ h => by simp at h, fun a b _ h => by simp at h⟩
theorem Keep.ge {o : List Int} {n : Nat} {K : List Nat} (h : Keep o n K) : ∀ a, a < K.length → a ≤ kat K a := by
  intro a
  induction a with
  | zero => intro _; omega
  | succ a ih => intro ha; have := ih (by omega); have := h.pos a (a + 1) (by omega) ha; omega
theorem Keep.len {o : List Int} {n : Nat} {K : List Nat} (h : Keep o n K) : K.length ≤ n := by
  rcases Nat.eq_zero_or_pos K.length with h0 | h0
  · omega
  · have := h.ge (K.length - 1) (by omega); have := h.lt (K.length - 1) (by omega); omega
theorem Keep.more {o : List Int} {n : Nat} {K : List Nat} (h : Keep o n K) : Keep o (n + 1) K := ⟨fun a ha => by have := h.lt a ha; omega, h.pos, h.val⟩
theorem kat_left (K : List Nat) (i a : Nat) (h : a < K.length) : kat (K ++ [i]) a = kat K a := by simp [kat, List.getD_eq_getElem?_getD, List.getElem?_append_left h]
theorem kat_last (K : List Nat) (i : Nat) : kat (K ++ [i]) K.length = i := by simp [kat, List.getD_eq_getElem?_getD]
theorem Keep.push {o : List Int} {n : Nat} {K : List Nat} (h : Keep o n K) (hv : K.length = 0 ∨ at_ o (kat K (K.length - 1)) < at_ o n) : Keep o (n + 1) (K ++ [n]) := by
  have hvv : ∀ a, a < K.length → at_ o (kat K a) < at_ o n := fun a ha => by
    rcases hv with h0 | hv
    · omega
    · rcases Nat.lt_or_ge a (K.length - 1) with c | c
      · have := h.val a (K.length - 1) c (by omega); omega
      · rw [show a = K.length - 1 by omega]; exact hv
  refine ⟨fun a ha => ?_, fun a b hab hb => ?_, fun a b hab hb => ?_⟩
  · rw [List.length_append, List.length_singleton] at ha
    rcases Nat.lt_or_ge a K.length with c | c
    · rw [kat_left _ _ _ c]; have := h.lt a c; omega
    · rw [show a = K.length by omega, kat_last]; omega
  · rw [List.length_append, List.length_singleton] at hb
    rw [kat_left _ _ a (by omega)]
    rcases Nat.lt_or_ge b K.length with c | c
    · rw [kat_left _ _ _ c]; exact h.pos a b hab c
    · rw [show b = K.length by omega, kat_last]; exact h.lt a (by omega)
  · rw [List.length_append, List.length_singleton] at hb
    rw [kat_left _ _ a (by omega)]
    rcases Nat.lt_or_ge b K.length with c | c
    · rw [kat_left _ _ _ c]; exact h.val a b hab c
    · rw [show b = K.length by omega, kat_last]; exact hvv a (by omega)
/-- The table, as it is computed: one position against the d next ones; then all positions from the end. -/
def innL (o : List Int) (i : Nat) (B : List Int) : Nat → List Int
  | 0 => B
  | d + 1 => if at_ o i < at_ o (i + 1 + d) then (innL o i B d).set i (if at_ (innL o i B d) i < at_ (innL o i B d) (i + 1 + d) then at_ (innL o i B d) (i + 1 + d) else at_ (innL o i B d) i) else innL o i B d
def outL (o : List Int) : Nat → List Int
  | 0 => List.replicate (o.length + 1) 0
  | d + 1 => (innL o (o.length - (d + 1)) (outL o d) d).set (o.length - (d + 1)) (at_ (innL o (o.length - (d + 1)) (outL o d) d) (o.length - (d + 1)) + 1)
def bstF (o : List Int) : List Int := outL o o.length
def mxF (o : List Int) : Int := maxTo (bstF o) ((bstF o).length - 1)
/-- What is taken from the first i positions. -/
def grd (o : List Int) : Nat → Int × List Nat
  | 0 => (mxF o, [])
  | i + 1 => if at_ (bstF o) i = (grd o i).1 ∧ ((grd o i).2.length = 0 ∨ at_ o (kat (grd o i).2 ((grd o i).2.length - 1)) < at_ o i) then ((grd o i).1 - 1, (grd o i).2 ++ [i]) else grd o i
/-- The lengths that the table holds: between 0 and the rest; all of the rest where the order increases. -/
structure BI (o : List Int) (i : Nat) (B : List Int) : Prop where
  eq : B = outL o (o.length - i)
  len : B.length = o.length + 1
  bd : ∀ p, 0 ≤ at_ B p ∧ at_ B p ≤ ((o.length - p : Nat) : Int)
  inc : Inc o → ∀ p, i ≤ p → p ≤ o.length → at_ B p = ((o.length - p : Nat) : Int)
  low : ∀ p, p < i → at_ B p = 0
structure BIn (o : List Int) (i k : Nat) (B : List Int) : Prop where
  eq : B = innL o i (outL o (o.length - (i + 1))) (k - (i + 1))
  len : B.length = o.length + 1
  bd : ∀ p, 0 ≤ at_ B p ∧ at_ B p ≤ ((o.length - p : Nat) : Int)
  bi : at_ B i ≤ ((o.length - i - 1 : Nat) : Int)
  inc : Inc o → ∀ p, i < p → p ≤ o.length → at_ B p = ((o.length - p : Nat) : Int)
  here : Inc o → at_ B i = if k = i + 1 then 0 else ((o.length - (i + 1) : Nat) : Int)
  low : ∀ p, p < i → at_ B p = 0
theorem at_set (B : List Int) (i p : Nat) (x : Int) (h : i < B.length) : at_ (B.set i x) p = if p = i then x else at_ B p := by
  unfold at_
  by_cases e : p = i
  · subst e; simp [List.getD_eq_getElem?_getD, h]
  · simp [List.getD_eq_getElem?_getD, Ne.symm e, e]
theorem BI.start (o : List Int) : BI o o.length (List.replicate (o.length + 1) 0) := by
  have e : ∀ p, at_ (List.replicate (o.length + 1) 0) p = 0 := fun p => by
    unfold at_
    simp [List.getD_eq_getElem?_getD, List.getElem?_replicate]
    split <;> rfl
  refine ⟨by rw [Nat.sub_self]; rfl, by simp, fun p => by rw [e]; omega, fun _ p h1 h2 => by rw [e]; omega, fun p _ => e p⟩
theorem BI.open_ {o : List Int} {i : Nat} {B : List Int} (h : BI o (i + 1) B) : BIn o i (i + 1) B :=
  ⟨by rw [Nat.sub_self]; exact h.eq, h.len, h.bd, by rw [h.low i (by omega)]; omega, fun hI p hp hp2 => h.inc hI p (by omega) hp2, fun _ => by rw [if_pos rfl]; exact h.low i (by omega), fun p hp => h.low p (by omega)⟩
theorem BIn.shut {o : List Int} {i : Nat} {B : List Int} (h : BIn o i o.length B) (hi : i < o.length) : BI o i (B.set i (at_ B i + 1)) := by
  have hl : i < B.length := by rw [h.len]; omega
  refine ⟨?_, by rw [List.length_set]; exact h.len, fun p => ?_, fun hI p h1 h2 => ?_, fun p hp => ?_⟩
  · obtain ⟨d, hd⟩ : ∃ d, o.length - i = d + 1 := ⟨o.length - i - 1, by omega⟩
    have e1 : o.length - (d + 1) = i := by omega
    have e2 : o.length - (i + 1) = d := by omega
    rw [hd, outL, e1]
    have := h.eq
    rw [e2] at this
    rw [← this]
  · rw [at_set _ _ _ _ hl]
    split
    · rename_i e; subst e; have := h.bd p; have := h.bi; omega
    · exact h.bd p
  · rw [at_set _ _ _ _ hl]
    split
    · rename_i e; subst e; rw [h.here hI]; split <;> omega
    · exact h.inc hI p (by omega) h2
  · rw [at_set _ _ _ _ hl, if_neg (by omega)]; exact h.low p hp
theorem BIn.skip {o : List Int} {i k : Nat} {B : List Int} (h : BIn o i k B) (hi : i < k) (hk : k < o.length) (hv : ¬ at_ o i < at_ o k) : BIn o i (k + 1) B :=
  ⟨by rw [show k + 1 - (i + 1) = (k - (i + 1)) + 1 by omega, innL, show i + 1 + (k - (i + 1)) = k by omega, if_neg hv]; exact h.eq, h.len, h.bd, h.bi, h.inc, fun hI => absurd (hI i k hi hk) hv, h.low⟩
theorem BIn.take {o : List Int} {i k : Nat} {B : List Int} (h : BIn o i k B) (hi : i < k) (hk : k < o.length) (hv : at_ o i < at_ o k) : BIn o i (k + 1) (B.set i (if at_ B i < at_ B k then at_ B k else at_ B i)) := by
  have hl : i < B.length := by rw [h.len]; omega
  have h1 := h.bd i
  have h2 := h.bd k
  have h3 := h.bi
  refine ⟨by rw [show k + 1 - (i + 1) = (k - (i + 1)) + 1 by omega, innL, show i + 1 + (k - (i + 1)) = k by omega, if_pos hv, ← h.eq], by rw [List.length_set]; exact h.len, fun p => ?_, ?_, fun hI p hp hp2 => ?_, fun hI => ?_, fun p hp => ?_⟩
  · rw [at_set _ _ _ _ hl]
    split
    · rename_i e; subst e; split <;> omega
    · exact h.bd p
  · rw [at_set _ _ _ _ hl, if_pos rfl]; split <;> omega
  · rw [at_set _ _ _ _ hl, if_neg (by omega)]; exact h.inc hI p hp hp2
  · have e1 := h.here hI
    have e2 := h.inc hI k hi (by omega)
    rw [at_set _ _ _ _ hl, if_pos rfl, if_neg (show ¬ k + 1 = i + 1 by omega), e1, e2]
    repeat' split
    all_goals omega
  · rw [at_set _ _ _ _ hl, if_neg (by omega)]; exact h.low p hp
theorem BI.max_ {o : List Int} {B : List Int} (h : BI o 0 B) : 0 ≤ maxTo B (B.length - 1) ∧ maxTo B (B.length - 1) ≤ o.length ∧ (Inc o → maxTo B (B.length - 1) = o.length) := by
  obtain ⟨j, hj, e⟩ := maxTo_mem B (B.length - 1)
  have h1 := h.bd j
  unfold at_ at h1
  have h2 := le_maxTo B (B.length - 1) 0 (by omega)
  have h3 := h.bd 0
  have h4 := h.inc
  unfold at_ at h3 h4
  rw [h.len] at *
  refine ⟨by omega, by omega, fun hI => ?_⟩
  have := h4 hI 0 (by omega) (by omega)
  omega
/-- What is kept after i positions, and the length that is still wanted. -/
structure KI (o : List Int) (i : Nat) (want : Int) (K : List Nat) : Prop where
  eq : grd o i = (want, K)
  keep : Keep o i K
  wb : 0 - (i : Int) ≤ want ∧ want ≤ o.length
  inc : Inc o → K = List.range i ∧ want = ((o.length - i : Nat) : Int)
theorem KI.skip {o : List Int} {i : Nat} {want : Int} {K : List Nat} (h : KI o i want K) (hn : ¬ Inc o) (hno : ¬ (at_ (bstF o) i = want ∧ (K.length = 0 ∨ at_ o (kat K (K.length - 1)) < at_ o i))) : KI o (i + 1) want K :=
  ⟨by rw [grd, h.eq, if_neg hno], h.keep.more, by have := h.wb; omega, fun hI => absurd hI hn⟩
theorem KI.push {o : List Int} {i : Nat} {want : Int} {K : List Nat} (h : KI o i want K) (hi : i < o.length) (hw : at_ (bstF o) i = want) (hv : K.length = 0 ∨ at_ o (kat K (K.length - 1)) < at_ o i) : KI o (i + 1) (want - 1) (K ++ [i]) :=
  ⟨by rw [grd, h.eq, if_pos ⟨hw, hv⟩], h.keep.push hv, by have := h.wb; omega, fun hI => by
    obtain ⟨e1, e2⟩ := h.inc hI
    exact ⟨by rw [e1, List.range_succ], by omega⟩⟩
theorem KI.not1 {o : List Int} {i : Nat} {want : Int} {K : List Nat} {B : List Int} (h : KI o i want K) (hB : BI o 0 B) (hi : i < o.length) (hne : at_ B i ≠ want) : ¬ Inc o := fun hI =>
  hne (((h.inc hI).2).symm ▸ hB.inc hI i (by omega) (by omega))
theorem KI.not2 {o : List Int} {i : Nat} {want : Int} {K : List Nat} (h : KI o i want K) (hi : i < o.length) (h0 : K.length ≠ 0) (hv : ¬ at_ o (kat K (K.length - 1)) < at_ o i) : ¬ Inc o := fun hI => by
  obtain ⟨e1, _⟩ := h.inc hI
  refine hv (hI _ _ ?_ hi)
  have := h.keep.lt (K.length - 1) (by omega)
  exact this
theorem eInt : ElemT Try.prog 31 3 (.int .i64 0) 8 := ElemT.mk_ Try.underlying31 (by kernel_rfl) rfl
theorem zerosI (w : World) (n : Nat) : IRow (w.alloc (.cells (Array.replicate n (Value.int .i64 0)) 3)) w.heap.size (List.replicate n 0) := by
  have := IRow.zeros w 3 n
  rwa [List.toArray_replicate] at this
def nats_ (K : List Nat) : List Int := K.map Int.ofNat
theorem nats_push_ (K : List Nat) (i : Nat) : ints (nats_ (K ++ [i])) = ints (nats_ K) ++ [Value.int .i64 (i : Int)] := by simp [ints, nats_]
def LongPost (o : List Int) (w : World) (e : Ending) (w' : World) : Prop :=
  ∃ (K : List Nat) (v : Value) (m : Int), KI o o.length m K ∧ e = .returned v ∧ w'.ownsRow w.heap.size 3 1 v K.length (ints (nats_ K)) ∧ Below w.heap.size w w'
set_option maxHeartbeats 2000000 in
set_option maxRecDepth 100000 in
theorem longest_any (v : Value) (o : List Int) (w : World) (ok : Nat → Prop) (h : Sl w ok v (ints o)) (hn : o.length ≤ 64) :
    Calls Try.prog 20 #[v] w (LongPost o w) := by
  obtain ⟨A, cap, rfl⟩ := h.form
  rw [ints_length] at h ⊢
  have HS := Lib.hid h
  have HPost : Hid (∀ (w' : World) (K : List Nat) (v : Value) (m : Int), KI o o.length m K → w'.ownsRow w.heap.size 3 1 v K.length (ints (nats_ K)) → Below w.heap.size w w' → LongPost o w (.returned v) w') := fun w' K v m h1 h2 h3 => ⟨K, v, m, h1, rfl, h2, h3⟩
  generalize LongPost o w = Post at *
  have HB0 : Hid (BI o o.length (List.replicate (o.length + 1) 0)) := BI.start o
  have HZ := Lib.hid (zerosI w (o.length + 1))
  generalize hnn : o.length = n at *
  have HN := Lib.hid hnn
  have hmk := fun w => run_mk eInt rfl (n + 1) (by omega) (by omega) ((n : Int) + 1) (by omega) w
  clear h hnn
  go_enter Try.func20, Try.ntmps20
  go_wp2
  clear hmk
  have hbw := (Below.refl w.heap.size w).alloc (Nat.le_refl _) (.cells (Array.replicate (n + 1) (Value.int .i64 0)) 3)
  generalize w.alloc (.cells (Array.replicate (n + 1) (Value.int .i64 0)) 3) = w1 at *
  have HBW := Lib.hid hbw
  clear hbw
  go_loopw [5] (fun vi wr => ∃ (k : Nat) (B : List Int), k ≤ n ∧ vi = .int .i64 ((k : Int) - 1) ∧ BI o k B ∧ IRow wr w.heap.size B ∧ Below w.heap.size w wr) (fun i _ => (intOf i + 1).toNat)
  case atStart => exact ⟨n, _, Nat.le_refl _, rfl, HB0.out, HZ.out, HBW.out⟩
  case round =>
    obtain ⟨k, B, hk, rfl, hBI, hI, hb⟩ := hrel
    obtain ⟨wo, rfl⟩ : ∃ wo : World, wo = wr := ⟨_, rfl⟩
    by_cases hz : k = 0
    · subst hz
      have hl := hBI.len
      have hmx := hBI.max_
      have hsl : Sl wo (fun _ => True) (.slice (some ⟨w.heap.size, 0, none⟩) (n + 1) (n + 1)) (ints B) := by
        refine ⟨_, n + 1, by rw [ints_length, hl, HN.out], by rw [ints_length, hl, HN.out]; exact Nat.le_refl _, by unfold maxLen; omega, fun _ => ⟨_, rfl, trivial, hI.lt, fun i u hu => ?_⟩⟩
        rw [add_plain, Nat.zero_add]
        exact Row.cell hI i u hu
      have HMx := Lib.hid (max_ints _ B wo _ hsl (by omega))
      have HBI := Lib.hid hBI
      have HI := Lib.hid hI
      have HB := Lib.hid hb
      obtain ⟨m0, m1, m2⟩ := hmx
      have HF : Hid (B = bstF o) := hBI.eq
      have hki : KI o 0 (maxTo B (B.length - 1)) [] := ⟨by rw [grd, mxF, ← HF.out], Keep.nil o, by omega, fun hI => ⟨rfl, m2 hI⟩⟩
      have HKI := Lib.hid hki
      generalize maxTo B (B.length - 1) = mx at *
      have HL := Lib.hid hl
      rw [HN.out] at m1
      clear hBI hI hb hl hsl m2 hki
      go_wp2_with (go_at_call 28; refine HMx.out.mono ?_; rintro e w' ⟨rfl, rfl⟩)
      obtain ⟨wa, rfl⟩ : ∃ wa : World, wa = wo := ⟨_, rfl⟩
      go_loopw [7, 8, 9] (fun vo vm vi wr => ∃ (i : Nat) (mw : Int) (K : List Nat), i ≤ n ∧ vi = .int .i64 (i : Int) ∧ vm = .int .i64 mw ∧ KI o i mw K ∧ wr.ownsRow wa.heap.size 3 1 vo K.length (ints (nats_ K)) ∧ Below wa.heap.size wa wr) (fun _ _ i _ => n - (intOf i).toNat)
      case atStart => exact ⟨0, mx, [], by omega, rfl, rfl, HKI.out, ⟨rfl, .inl ⟨rfl, rfl⟩⟩, Below.refl _ _⟩
      case round =>
        obtain ⟨i, mw, K, hi, rfl, rfl, hK, hown, hb⟩ := hrel
        have hlen := hK.keep.len
        have hwb := hK.wb
        rw [HN.out] at hwb
        have hs1 := hb.size
        by_cases hin : i < n
        · obtain ⟨b, off, hA, hbl, hc⟩ := (HS.out.later (HB.out.trans (hb.mono HB.out.size))).plainA (by rw [ints_length, HN.out]; omega)
          subst hA
          have hI2 := HI.out.below hb HI.out.lt
          have b1 := hI2.at_ (i := i) (by rw [HL.out, HN.out]; omega)
          have HX1 : Hid (at_ B i = B.getD i 0) := rfl
          rw [← HX1.out] at b1
          have HK := Lib.hid hK
          have HO := Lib.hid hown
          have HB1 := Lib.hid hb
          have g1 : (i : Int) < (n : Int) + 1 := by omega
          have g2 : (i : Int) < (n : Int) := by omega
          have hz1 := hI2.lt
          clear hI2
          by_cases hw : at_ B i = mw
          · rw [hw] at b1
            by_cases hk0 : K.length = 0
            · have HP := Lib.hid (HK.out.push (by rw [HN.out]; exact hin) (by rw [← HF.out]; exact hw) (.inl hk0))
              obtain ⟨A7, c7, rfl⟩ := own_form hown
              generalize hkl : K.length = kl at *
              have HKL := Lib.hid hkl
              subst hk0
              clear hK hown hb hc hkl
              go_wp2
              go_quiet (fail)
              obtain ⟨w3, hw3⟩ : ∃ w3, w3 = wr.drewN nq := ⟨_, rfl⟩
              rw [← hw3]
              have HO3 : Hid (w3.ownsRow wa.heap.size 3 1 (.slice A7 0 c7) 0 (ints (nats_ K))) := by rw [hw3]; exact HO.out
              have HB3 : Hid (Below wa.heap.size wa w3) := by rw [hw3]; exact below_drewN HB1.out _
              clear hw3 b1
              go_wp2_with (at_builtin; refine wpList_push eInt rfl (.tmp 89) (.tmp 91) rfl wa.heap.size (.slice A7 0 c7) 0 _ rfl (HO3.out.alloc _) ⟨w3.heap.size, 0, none⟩ 1 (.int .i64 (i : Int)) rfl (new_one _ _ _) rfl (by omega) (by omega) (le_alloc HB3.out.size _) ?_; intro v4 w4 hown4 hg4 hk4)
              go_roundw
              case rel => exact ⟨i + 1, mw - 1, K ++ [i], by omega, by go_num, rfl, HP.out, by rw [List.length_append, nats_push_, HKL.out]; exact hown4, (HB3.out.alloc HB3.out.size _).grown hg4 (le_alloc HB3.out.size _) (fun k hk => (own_lt HO3.out k hk).1)⟩
              case measure => simp [intOf]; omega
            · obtain ⟨A7, c7, rfl⟩ := own_form hown
              obtain ⟨b7, o7, hA7, hb7, hc7⟩ := (Sl.of_own hown).plainA (by rw [ints_length]; simp [nats_]; omega)
              subst hA7
              have e7 := hc7 (K.length - 1) (.int .i64 ((kat K (K.length - 1) : Nat) : Int)) (by
                have hl : K.length - 1 < K.length := by omega
                simp [ints, nats_, kat, List.getD_eq_getElem?_getD, List.getElem?_eq_getElem hl])
              have hkb := hK.keep.lt (K.length - 1) (by omega)
              have e8 := hc (kat K (K.length - 1)) _ (ints_get (by rw [HN.out]; omega))
              have e9 := hc i _ (ints_get (by rw [HN.out]; exact hin))
              have HY1 : Hid (at_ o (kat K (K.length - 1)) = o.getD (kat K (K.length - 1)) 0) := rfl
              have HY2 : Hid (at_ o i = o.getD i 0) := rfl
              rw [← HY1.out] at e8
              rw [← HY2.out] at e9
              have HPY := Lib.hid fun hv => HK.out.push (by rw [HN.out]; exact hin) (by rw [← HF.out]; exact hw) (.inr hv)
              have HPN := Lib.hid fun hv => HK.out.skip (HK.out.not2 (by rw [HN.out]; exact hin) hk0 hv) (fun h => by rcases h.2 with h | h; exact hk0 h; exact hv h)
              generalize kat K (K.length - 1) = kk at *
              generalize hkl : K.length = kl at *
              have HKL := Lib.hid hkl
              have s1 : ((kl : Int) == 0) = false := by rw [beq_eq_false_iff_ne]; omega
              have s2 : IntKind.i64.wrap ((kl : Int) - 1) = (kl : Int) - 1 := IntWalk.i64_in _ (by omega)
              have s3 : 0 ≤ (kl : Int) - 1 := by omega
              have s4 : (1 : Int) ≤ kl := by omega
              have s5 : ((kl : Int) - 1).toNat = kl - 1 := by omega
              have s6 : (kl : Int) - 1 < (kl : Int) := by omega
              have s7 : (kk : Int) < (n : Int) := by omega
              have S2 := Lib.hid s2
              clear hK hown hb hc hkl hc7 s2
              by_cases hv : at_ o kk < at_ o i
              · have HP := Lib.hid (HPY.out hv)
                have hd : decide (at_ o kk < at_ o i) = true := by simpa using hv
                clear hv hk0
                generalize at_ o kk = x at *
                generalize at_ o i = y at *
                have s2 := S2.out
                go_wp2
                go_quiet (fail)
                obtain ⟨w3, hw3⟩ : ∃ w3, w3 = wr.drewN nq := ⟨_, rfl⟩
                rw [← hw3]
                have HO3 : Hid (w3.ownsRow wa.heap.size 3 1 (.slice (some ⟨b7, o7, none⟩) kl c7) kl (ints (nats_ K))) := by rw [hw3]; exact HO.out
                have HB3 : Hid (Below wa.heap.size wa w3) := by rw [hw3]; exact below_drewN HB1.out _
                clear hw3 b1 s1 s2 s3 s4 s5 s6 s7 e7 e8 e9 hd
                go_wp2_with (at_builtin; refine wpList_push eInt rfl (.tmp 89) (.tmp 91) rfl wa.heap.size (.slice (some ⟨b7, o7, none⟩) kl c7) kl _ rfl (HO3.out.alloc _) ⟨w3.heap.size, 0, none⟩ 1 (.int .i64 (i : Int)) rfl (new_one _ _ _) rfl (by omega) (by omega) (le_alloc HB3.out.size _) ?_; intro v4 w4 hown4 hg4 hk4)
                go_roundw
                case rel => exact ⟨i + 1, mw - 1, K ++ [i], by omega, by go_num, rfl, HP.out, by rw [List.length_append, nats_push_, HKL.out]; exact hown4, (HB3.out.alloc HB3.out.size _).grown hg4 (le_alloc HB3.out.size _) (fun k hk => (own_lt HO3.out k hk).1)⟩
                case measure => simp [intOf]; omega
              · have HP := Lib.hid (HPN.out hv)
                have hd : decide (at_ o kk < at_ o i) = false := by simpa using hv
                clear hv hk0
                generalize at_ o kk = x at *
                generalize at_ o i = y at *
                have s2 := S2.out
                go_wp2
                go_quiet (fail)
                obtain ⟨w3, hw3⟩ : ∃ w3, w3 = wr.drewN nq := ⟨_, rfl⟩
                rw [← hw3]
                have HO3 : Hid (w3.ownsRow wa.heap.size 3 1 (.slice (some ⟨b7, o7, none⟩) kl c7) kl (ints (nats_ K))) := by rw [hw3]; exact HO.out
                have HB3 : Hid (Below wa.heap.size wa w3) := by rw [hw3]; exact below_drewN HB1.out _
                clear hw3 b1 s1 s2 s3 s4 s5 s6 s7 e7 e8 e9 hd
                go_wp2
                go_roundw
                case rel => exact ⟨i + 1, mw, K, by omega, by go_num, rfl, HP.out, by rw [HKL.out]; exact HO3.out, HB3.out⟩
                case measure => simp [intOf]; omega
          · have hq : (at_ B i == mw) = false := by simpa using hw
            have hni := HK.out.not1 HBI.out (by rw [HN.out]; exact hin) hw
            have HP := Lib.hid (HK.out.skip hni (fun h => hw (by rw [HF.out]; exact h.1)))
            clear hK hown hb hc hw hni
            generalize at_ B i = bx at *
            go_wp2
            go_quiet (fail)
            go_wp2
            go_roundw
            case rel => exact ⟨i + 1, mw, K, by omega, by go_num, rfl, HP.out, HO.out, below_drewN HB1.out _⟩
            case measure => simp [intOf]; omega
        · obtain rfl : i = n := by omega
          have HK := Lib.hid hK
          have HO := Lib.hid hown
          have HB1 := Lib.hid hb
          clear hK hown hb
          go_wp2
          exact HPost.out _ K _ mw HK.out (own_base HO.out HB.out.size) (HB.out.trans (HB1.out.mono HB.out.size))
    · obtain ⟨i, rfl⟩ : ∃ i, k = i + 1 := ⟨k - 1, by omega⟩
      rw [show ((i + 1 : Nat) : Int) - 1 = (i : Int) by omega]
      have hin := hBI.open_
      have HIn := Lib.hid hin
      have HI := Lib.hid hI
      have HB := Lib.hid hb
      clear hBI hI hb hin hz
      go_wp2
      go_loopw [6] (fun vk wr => ∃ (q : Nat) (B : List Int), i < q ∧ q ≤ n ∧ vk = .int .i64 (q : Int) ∧ BIn o i q B ∧ IRow wr w.heap.size B ∧ Below w.heap.size w wr) (fun q _ => n - (intOf q).toNat)
      case atStart => exact ⟨i + 1, B, by omega, hk, by go_num, HIn.out, HI.out, HB.out⟩
      case round =>
        obtain ⟨q, B, hq0, hq, rfl, hBI, hI, hb⟩ := hrel
        have hl := hBI.len
        rw [HN.out] at hl
        by_cases hqn : q < n
        · obtain ⟨b, off, hA, hbl, hc⟩ := (HS.out.later hb).plainA (by rw [ints_length, HN.out]; omega)
          subst hA
          have d1 := hc q _ (ints_get (by rw [HN.out]; exact hqn))
          have d2 := hc i _ (ints_get (by rw [HN.out]; omega))
          have HX : Hid (at_ o q = o.getD q 0) := rfl
          have HY : Hid (at_ o i = o.getD i 0) := rfl
          rw [← HX.out] at d1
          rw [← HY.out] at d2
          have f1 : (q : Int) < (n : Int) := by omega
          have f2 : (i : Int) < (n : Int) := by omega
          have b1 := hI.at_ (i := i) (by omega)
          have b2 := hI.at_ (i := q) (by omega)
          have b3 := hI.free_ (i := i) (by omega)
          have b4 := hI.lt
          have hd1 := hBI.bd i
          have hd2 := hBI.bd q
          have HX1 : Hid (at_ B i = B.getD i 0) := rfl
          have HY1 : Hid (at_ B q = B.getD q 0) := rfl
          rw [← HX1.out] at b1
          rw [← HY1.out] at b2
          have HBI := Lib.hid hBI
          have HI1 := Lib.hid hI
          have HB1 := Lib.hid hb
          have hl1 : i < B.length := by omega
          clear hBI hI hb hc
          by_cases hlt : at_ o i < at_ o q
          · have hd : decide (at_ o i < at_ o q) = true := by simpa using hlt
            have HT := Lib.hid (HBI.out.take hq0 (by rw [HN.out]; exact hqn) hlt)
            clear hlt
            generalize at_ o i = x at *
            generalize at_ o q = y at *
            generalize at_ B i = bx at *
            generalize at_ B q = bq at *
            go_wp2
            go_quiet (fail)
            go_wp2
            clear d1 d2 hd
            have f3 : (i : Int) < (n : Int) + 1 := by omega
            have f4 : (q : Int) < (n : Int) + 1 := by omega
            go_region
            go_wp2
            go_roundw
            case rel => exact ⟨q + 1, _, by omega, by omega, by go_num, HT.out, IRow.put (Row.drewN HI1.out _) hl1 _, (below_drewN HB1.out _).setCell (Nat.le_refl _) _⟩
            case measure => simp [intOf]; omega
          · have hd : decide (at_ o i < at_ o q) = false := by simpa using hlt
            have HT := Lib.hid (HBI.out.skip hq0 (by rw [HN.out]; exact hqn) hlt)
            clear hlt
            generalize at_ o i = x at *
            generalize at_ o q = y at *
            go_wp2
            go_quiet (fail)
            go_wp2
            go_roundw
            case rel => exact ⟨q + 1, B, by omega, by omega, by go_num, HT.out, Row.drewN HI1.out _, below_drewN HB1.out _⟩
            case measure => simp [intOf]; omega
        · obtain rfl : q = n := by omega
          have hsh := BIn.shut (by rw [HN.out]; exact hBI) (by rw [HN.out]; omega)
          have b1 := hI.at_ (i := i) (by omega)
          have b3 := hI.free_ (i := i) (by omega)
          have b4 := hI.lt
          have hd1 := hBI.bd i
          have HX1 : Hid (at_ B i = B.getD i 0) := rfl
          rw [← HX1.out] at b1
          have HI1 := Lib.hid hI
          have HB1 := Lib.hid hb
          have HSh := Lib.hid hsh
          have hl1 : i < B.length := by omega
          rw [HN.out] at hd1
          clear hBI hI hb hsh hl
          generalize at_ B i = bx at *
          go_wp2
          go_roundw
          case rel => exact ⟨i, _, by omega, rfl, HSh.out, IRow.put HI1.out hl1 _, HB1.out.setCell (Nat.le_refl _) _⟩
          case measure => simp [intOf]
end Go.Proofs.Ytcnoehaemankiaa
