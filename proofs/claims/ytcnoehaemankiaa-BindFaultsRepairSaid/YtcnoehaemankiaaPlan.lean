/- The walks of Plan: the sections of a book, stacked and nested. -/
import Derived.Test.YtcnoehaemankiaaAdd
import Derived.Test.YtcnoehaemankiaaConcatInts
namespace Go.Proofs.Ytcnoehaemankiaa
open Go.RowKit
def many (pages per : Nat) : Nat := (pages + per - 1) / per
def planList (style pages per m k : Nat) : List Int :=
  if style = 0 then run pages ((k * per + 1 : Nat) : Int) per
  else run pages ((k * (per / 2) + 1 : Nat) : Int) (per / 2) ++ run pages ((m * per - (k + 1) * (per / 2) + 1 : Nat) : Int) (per / 2)
/-- What the loop over the sections holds: the sections made so far. -/
def PlanRel (w : World) (pages : Nat) (L : Nat → List Value) (m : Nat) (vo vk : Value) (wr : World) : Prop :=
  ∃ (k : Nat) (vals : List Value), k ≤ m ∧ vk = .int .i64 k ∧ vals.length = k ∧ wr.ownsRow (w.heap.size + 1) 31 1 vo k vals ∧ Below w.heap.size w wr ∧ w.heap.size + 1 ≤ wr.heap.size ∧
    wr.cell? ⟨w.heap.size, 0, none⟩ = some (.int .i64 (pages : Int)) ∧ ∀ i u, vals[i]? = some u → Sl wr (fun b => some b ≠ vo.ownBlock ∧ True) u (L i)
theorem plan_start (w : World) (pages : Nat) (L : Nat → List Value) (m : Nat) : PlanRel w pages L m (.slice none 0 0) (.int .i64 0) (w.alloc (Obj.cells #[Value.int .i64 (pages : Int)] 3)) :=
  ⟨0, [], by omega, rfl, rfl, ⟨rfl, .inl ⟨rfl, rfl⟩⟩, (Below.refl _ _).alloc (Nat.le_refl _) _, by simp, new_one _ _ _, fun i u h => by simp at h⟩
theorem plan_step {w wo wr w1 : World} {pages m k : Nat} {L : Nat → List Value} {vo u v' : Value} {vals : List Value} {ob : Obj} (hk : k < m) (hl : vals.length = k) (ho : wo.ownsRow (w.heap.size + 1) 31 1 vo k vals) (hb : Below w.heap.size w wo) (hsz : w.heap.size + 1 ≤ wo.heap.size)
    (hc : wo.cell? ⟨w.heap.size, 0, none⟩ = some (.int .i64 (pages : Int))) (hall : ∀ i u, vals[i]? = some u → Sl wo (fun b => some b ≠ vo.ownBlock ∧ True) u (L i)) (hb2 : Below wo.heap.size wo wr) (hin : Sl wr (fun b => wo.heap.size ≤ b) u (L k))
    (hown1 : w1.ownsRow (w.heap.size + 1) 31 1 v' (k + 1) (vals ++ [u])) (hg1 : (wr.alloc ob).grownBy w1 vo.ownBlock) (hk1 : v'.ownBlock = vo.ownBlock ∨ v'.ownBlock = some (wr.alloc ob).heap.size) :
    PlanRel w pages L m v' (.int .i64 ((k : Int) + 1)) w1 := by
  have hs2 := hb2.size
  have hB : Below (w.heap.size + 1) wo w1 := ((hb2.mono hsz).alloc (by omega) _).grown hg1 (le_alloc (by omega) _) fun g hg => (own_lt ho g hg).1
  refine ⟨k + 1, vals ++ [u], by omega, by go_num, by simp [hl], hown1, hb.trans (hB.mono (by omega)), Nat.le_trans hsz hB.size, (hB.cell (p := ⟨w.heap.size, 0, none⟩) (by simp)).trans hc, ?_⟩
  exact rows_push ho hall hb2 hin (fun _ _ => trivial) hg1 hk1
theorem ints_planList0 (pages per m k : Nat) : ints (planList 0 pages per m k) = ints ([] ++ run pages ((k : Int) * (per : Int) + 1) per) := by
  simp [planList]
/-- What Plan hands back: the sections, each a slice of its pages. -/
def PlanPost (st pages per : Nat) (w : World) (e : Ending) (w' : World) : Prop :=
  ∃ v vals, e = .returned (.tuple #[v, .int .i64 0]) ∧ vals.length = many pages per ∧ Sl w' (fun _ => True) v vals ∧
    (∀ i u, vals[i]? = some u → Sl w' (fun _ => True) u (ints (planList st pages per (many pages per) i))) ∧ Below w.heap.size w w'
theorem plan_end {w wr : World} {st pages per m : Nat} {vo x : Value} (hm : many pages per = m) {vals : List Value} (hl : vals.length = m) (hown : wr.ownsRow (w.heap.size + 1) 31 1 vo m vals) (hb : Below w.heap.size w wr)
    (hall : ∀ i u, vals[i]? = some u → Sl wr (fun b => some b ≠ vo.ownBlock ∧ True) u (ints (planList st pages per m i))) (hx : x = vo) : PlanPost st pages per w (.returned (.tuple #[x, .int .i64 0])) wr := by
  subst hx; subst hm
  exact ⟨x, vals, rfl, hl, (Sl.of_own hown).mono fun _ _ _ => trivial, fun i u hu => (hall i u hu).mono fun _ _ _ => trivial, hb⟩
set_option maxHeartbeats 2000000 in
theorem plan_stack (pages per : Nat) (w : World) (hp0 : 1 ≤ pages) (hp : pages ≤ 512) (h0 : 2 ≤ per) (h1 : per ≤ 64) (h2 : per % 2 = 0) (hm : many pages per ≤ 64) :
    Calls Try.prog 10 #[.int .i64 (pages : Int), .int .i64 (per : Int), .int .i64 0] w (PlanPost 0 pages per w) := by
  have hs : ((pages : Int) + (per : Int) - 1) / (per : Int) = ((many pages per : Nat) : Int) := by
    unfold many; rw [Int.natCast_ediv]; congr 1; omega
  have hr : ((per : Int) % 2 == 1) = false := by rw [beq_eq_false_iff_ne]; omega
  generalize hmm : many pages per = m at *
  have HM := Lib.hid hmm
  clear hmm
  go_enter Try.func10, Try.ntmps10
  go_wp2
  rw [hs]
  clear hs
  go_loopw [9, 11, 58] (fun vo _ vk wr => PlanRel w pages (fun i => ints (planList 0 pages per m i)) m vo vk wr) (fun _ _ k _ => m - (intOf k).toNat)
  case atStart => exact plan_start w pages _ m
  case round =>
    obtain ⟨k, vals, hkm, rfl, hlen, hown, hb, hsz, hcell, hall⟩ := hrel
    by_cases hlt : k < m
    · have m0 : (0 : Int) ≤ (k : Int) * (per : Int) := Int.mul_nonneg (by omega) (by omega)
      have m1 : (k : Int) * (per : Int) ≤ 64 * 64 := Int.mul_le_mul (by omega) (by omega) (by omega) (by omega)
      have HO := Lib.hid hown
      have HB := Lib.hid hb
      have HA := Lib.hid hall
      have HL := Lib.hid hlen
      have HC := Lib.hid hcell
      clear hown hb hall hlen hcell
      go_wp2_with fail
      refine (add_any pages ((k : Int) * (per : Int) + 1) per 0 (.slice none 0 0) [] ⟨w.heap.size, 0, none⟩ _ wr.heap.size HC.out (by simp; omega) (by simp [Value.ownBlock]) ⟨rfl, .inl ⟨rfl, rfl⟩⟩ (Nat.le_refl _) (by omega) (by omega) (by omega) (by omega)).mono ?_
      rintro e w1 ⟨v1, rfl, hown1, hg1, _⟩
      have hb1 := below_of_grown hg1
      rw [Nat.zero_add] at hown1
      obtain ⟨g, cap, rfl, hgb, hgl⟩ := hown1.form (by omega)
      have HO1 := Lib.hid hown1
      have HB1 := Lib.hid hb1
      have hs1 : w.heap.size + 1 ≤ w1.heap.size := Nat.le_trans hsz hb1.size
      clear hown1 hg1 hb1
      go_wp2_with (at_builtin; go_must (refine wpList_push eRow rfl (.tmp 63) (.tmp 71) rfl (w.heap.size + 1) u9 k vals rfl ((own_below HO.out HB1.out).alloc _) ⟨w1.heap.size, 0, none⟩ 1 (.slice (some ⟨g, 0, none⟩) per cap) rfl (new_one _ _ _) rfl (by omega) (by omega) (le_alloc hs1 _) ?_; intro v2 w2 hown2 hg2 hk2))
      go_roundw
      case rel =>
        refine plan_step hlt HL.out HO.out HB.out hsz HC.out HA.out HB1.out ?_ hown2 hg2 hk2
        rw [ints_planList0]
        exact (Sl.of_own HO1.out).mono fun b _ h => h.2
      case measure => simp [intOf]; omega
    · obtain rfl : k = m := by omega
      go_wp2
      go_ret2
      exact plan_end HM.out hlen hown hb hall rfl
theorem ints_planList1 (pages per m k h : Nat) (hh : per / 2 = h) (hle : (k + 1) * h ≤ m * per) : ints (planList 1 pages per m k) = ints (([] ++ run pages ((k : Int) * (h : Int) + 1) h) ++ run pages ((m : Int) * (per : Int) - ((k : Int) + 1) * (h : Int) + 1) h) := by
  subst hh
  have e : ((m * per - (k + 1) * (per / 2) + 1 : Nat) : Int) = (m : Int) * (per : Int) - ((k : Int) + 1) * ((per / 2 : Nat) : Int) + 1 := by
    rw [Int.natCast_add, Int.natCast_sub hle]; simp
  have e2 : ((k * (per / 2) + 1 : Nat) : Int) = (k : Int) * ((per / 2 : Nat) : Int) + 1 := by simp
  unfold planList
  rw [if_neg (by omega), e, e2, List.nil_append]
set_option maxHeartbeats 2000000 in
theorem plan_nest (pages per : Nat) (w : World) (hp0 : 1 ≤ pages) (hp : pages ≤ 512) (h0 : 2 ≤ per) (h1 : per ≤ 64) (h2 : per % 4 = 0) (hm : many pages per ≤ 64) :
    Calls Try.prog 10 #[.int .i64 (pages : Int), .int .i64 (per : Int), .int .i64 1] w (PlanPost 1 pages per w) := by
  have hs : ((pages : Int) + (per : Int) - 1) / (per : Int) = ((many pages per : Nat) : Int) := by
    unfold many; rw [Int.natCast_ediv]; congr 1; omega
  have hr : ((per : Int) % 2 == 1) = false := by rw [beq_eq_false_iff_ne]; omega
  have hr4 : ((per : Int) % 4 != 0) = false := by rw [bne_eq_false_iff_eq]; omega
  generalize hmm : many pages per = m at *
  have HM := Lib.hid hmm
  clear hmm
  go_enter Try.func10, Try.ntmps10
  go_wp2
  rw [hs]
  clear hs
  go_loopw [9, 11, 12, 58] (fun vo _ _ vk wr => PlanRel w pages (fun i => ints (planList 1 pages per m i)) m vo vk wr) (fun _ _ _ k _ => m - (intOf k).toNat)
  case atStart => exact plan_start w pages _ m
  case round =>
    obtain ⟨k, vals, hkm, rfl, hlen, hown, hb, hsz, hcell, hall⟩ := hrel
    by_cases hlt : k < m
    · obtain ⟨h, hh⟩ : ∃ h, per / 2 = h := ⟨_, rfl⟩
      have hhi : (per : Int) / 2 = (h : Int) := by omega
      have hh2 : per = 2 * h := by omega
      have hle : (k + 1) * h ≤ m * per := Nat.mul_le_mul (by omega) (by omega)
      have HPL := Lib.hid (ints_planList1 pages per m k h hh hle)
      have m0 : (0 : Int) ≤ (k : Int) * (h : Int) := Int.mul_nonneg (by omega) (by omega)
      have m1 : (k : Int) * (h : Int) ≤ 64 * 64 := Int.mul_le_mul (by omega) (by omega) (by omega) (by omega)
      have m2 : (0 : Int) ≤ (m : Int) * (per : Int) := Int.mul_nonneg (by omega) (by omega)
      have m3 : (m : Int) * (per : Int) ≤ 64 * 64 := Int.mul_le_mul (by omega) (by omega) (by omega) (by omega)
      have m4 : (0 : Int) ≤ ((k : Int) + 1) * (h : Int) := Int.mul_nonneg (by omega) (by omega)
      have m5 : ((k : Int) + 1) * (h : Int) ≤ (m : Int) * (per : Int) := by
        have := Int.ofNat_le.2 hle; simpa using this
      have hpos : 0 < h := by omega
      have hh64 : h ≤ 64 := by omega
      have HO := Lib.hid hown
      have HB := Lib.hid hb
      have HA := Lib.hid hall
      have HL := Lib.hid hlen
      have HC := Lib.hid hcell
      clear hown hb hall hlen hcell hh hh2 hle
      go_wp2_with fail
      refine (add_any pages ((k : Int) * (h : Int) + 1) h 0 (.slice none 0 0) [] ⟨w.heap.size, 0, none⟩ _ wr.heap.size HC.out (by simp; omega) (by simp [Value.ownBlock]) ⟨rfl, .inl ⟨rfl, rfl⟩⟩ (Nat.le_refl _) (by omega) (by omega) (by omega) (by omega)).mono ?_
      rintro e w1 ⟨v1, rfl, hown1, hg1, _⟩
      have hb1 := below_of_grown hg1
      rw [Nat.zero_add] at hown1
      obtain ⟨g, cap, rfl, hgb, hgl⟩ := hown1.form (by omega)
      have HO1 := Lib.hid hown1
      have HB1 := Lib.hid hb1
      have hs1 : w.heap.size + 1 ≤ w1.heap.size := Nat.le_trans hsz hb1.size
      clear hown1 hg1 hb1
      go_wp2_with fail
      refine (add_any pages ((m : Int) * (per : Int) - ((k : Int) + 1) * (h : Int) + 1) h h _ ([] ++ run pages ((k : Int) * (h : Int) + 1) h) ⟨w.heap.size, 0, none⟩ _ wr.heap.size ((HB1.out.cell (p := ⟨w.heap.size, 0, none⟩) (by simp; omega)).trans HC.out) (by simp; omega) (by simp [Value.ownBlock]; omega) HO1.out HB1.out.size (by omega) (by omega) (by omega) (by omega)).mono ?_
      rintro e w2 ⟨v2, rfl, hown2, hg2, hv2⟩
      have hb2 : Below wr.heap.size wr w2 := HB1.out.grown hg2 HB1.out.size (fun q hq => by simp [Value.ownBlock] at hq; omega)
      obtain ⟨g2, cap2, rfl, hgb2, hgl2⟩ := hown2.form (by omega)
      have HO2 := Lib.hid hown2
      have HB2 := Lib.hid hb2
      have hs2 : w.heap.size + 1 ≤ w2.heap.size := Nat.le_trans hsz hb2.size
      clear hown2 hg2 hb2 hv2
      go_wp2_with (at_builtin; go_must (refine wpList_push eRow rfl (.tmp 75) (.tmp 95) rfl (w.heap.size + 1) u9 k vals rfl ((own_below HO.out HB2.out).alloc _) ⟨w2.heap.size, 0, none⟩ 1 (.slice (some ⟨g2, 0, none⟩) (h + h) cap2) rfl (new_one _ _ _) rfl (by omega) (by omega) (le_alloc hs2 _) ?_; intro v3 w3 hown3 hg3 hk3))
      go_roundw
      case rel =>
        refine plan_step hlt HL.out HO.out HB.out hsz HC.out HA.out HB2.out ?_ hown3 hg3 hk3
        rw [HPL.out]
        exact (Sl.of_own HO2.out).mono fun b _ h => h.2
      case measure => simp [intOf]; omega
    · obtain rfl : k = m := by omega
      go_wp2
      go_ret2
      exact plan_end HM.out hlen hown hb hall rfl
theorem plan_large (pages per st : Nat) (w : World) (hp0 : 1 ≤ pages) (hp : pages ≤ 512) (h0 : 2 ≤ per) (h1 : per ≤ 64) (h2 : per % 4 = 0) (hst : st ≤ 1) (hm : 64 < many pages per) :
    Calls Try.prog 10 #[.int .i64 (pages : Int), .int .i64 (per : Int), .int .i64 (st : Int)] w fun e w' => e = .returned (.tuple #[.slice none 0 0, .int .i64 2]) ∧ Below w.heap.size w w' := by
  have hs : ((pages : Int) + (per : Int) - 1) / (per : Int) = ((many pages per : Nat) : Int) := by
    unfold many; rw [Int.natCast_ediv]; congr 1; omega
  have hr : ((per : Int) % 2 == 1) = false := by rw [beq_eq_false_iff_ne]; omega
  have hr4 : ((per : Int) % 4 != 0) = false := by rw [bne_eq_false_iff_eq]; omega
  generalize many pages per = m at *
  rcases (show st = 0 ∨ st = 1 by omega) with rfl | rfl
  · go_enter Try.func10, Try.ntmps10
    go_wp2
    go_ret2
    exact ⟨rfl, (Below.refl _ _).alloc (Nat.le_refl _) _⟩
  · go_enter Try.func10, Try.ntmps10
    go_wp2
    go_ret2
    exact ⟨rfl, (Below.refl _ _).alloc (Nat.le_refl _) _⟩
end Go.Proofs.Ytcnoehaemankiaa
