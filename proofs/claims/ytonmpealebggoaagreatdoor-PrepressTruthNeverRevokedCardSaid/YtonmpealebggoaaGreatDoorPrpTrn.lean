/- The walk of value: a fact is searched by halving. The walks of value and truth. The walk of truth at a comparison. The walk of truth at not, and, or. The walks of CheckFacts and Truth. -/
import Derived.Test.YtonmpealebggoaaGreatDoorPrpCnd
import Derived.Test.YtonmpealebggoaaGreatDoorPrpPlain
import Derived.Shelf.Spec.SearchS
import Derived.IntWalk
import Derived.Test.YtonmpealebggoaaGreatDoorLaidD
import Derived.Test.YtonmpealebggoaaGreatDoorPrpRul0
import Derived.Deep.DeepCutAuto
import Derived.Deep.CutBlock
import Derived.Test.YtonmpealebggoaaGreatDoorPrpTm
import Derived.Test.YtonmpealebggoaaGreatDoorPrpSho
import Derived.Test.YtonmpealebggoaaGreatDoorPrpChk
namespace Go.Proofs.YtonmpealebggoaaGreatDoor
open Go.RowKit Pr
theorem nan_any (a : ByteArray) (w : World) : Calls Tryz.prog 81 #[.string a] w fun e w' => e = .returned (.bool false) ∧ w' = w := by
  go_enter Tryz.func81, Tryz.ntmps81
  go_wp2
  go_ret
  exact ⟨by simp, rfl⟩
theorem less_ltB : ∀ a b : Src, Op.bytesLess a b = ltB a b
  | [], [] => rfl
  | [], _ :: _ => rfl
  | _ :: _, [] => rfl
  | a :: r, b :: s => by
    have ih := less_ltB r s
    simp only [Op.bytesLess, ltB]
    by_cases h1 : a < b
    · simp [h1]
    · by_cases h2 : b < a
      · have h3 : a ≠ b := by rintro rfl; exact h1 h2
        simp [h1, h2, h3]
      · have h3 : a = b := UInt8.le_antisymm (UInt8.not_lt.1 h2) (UInt8.not_lt.1 h1)
        subst h3
        simp [h1, ih]
def cmpS (a b : Src) : Int := if ltB a b = true then -1 else if a = b then 0 else 1
theorem cmpS_any (a b : Src) (w : World) : Calls Tryz.prog 54 #[.string (Bs a), .string (Bs b)] w fun e w' => e = .returned (.int .i64 (cmpS a b)) ∧ w' = w := by
  have h1 : Op.bytesLess (Bs a).toList (Bs b).toList = ltB a b := by rw [Lib.toList_data, Lib.toList_data]; simpa using less_ltB a b
  have h2 := beq_bs a b
  unfold cmpS
  generalize Bs a = A at *
  generalize Bs b = B at *
  by_cases e1 : ltB a b = true
  · rw [if_pos e1]
    rw [e1] at h1
    go_enter Tryz.func54, Tryz.ntmps54
    go_wp2_with (go_at_call 81; refine (nan_any _ _).mono ?_; rintro e w2 ⟨rfl, rfl⟩)
    go_ret
    exact ⟨rfl, rfl⟩
  · rw [if_neg e1]
    rw [show ltB a b = false by simpa using e1] at h1
    by_cases e2 : a = b
    · rw [if_pos e2]
      have h3 : (A.toList == B.toList) = true := by rw [h2]; simpa using e2
      clear h2
      go_enter Tryz.func54, Tryz.ntmps54
      go_wp2_with (go_at_call 81; refine (nan_any _ _).mono ?_; rintro e w2 ⟨rfl, rfl⟩)
      go_ret
      exact ⟨rfl, rfl⟩
    · rw [if_neg e2]
      have h3 : (A.toList == B.toList) = false := by rw [h2]; simpa using e2
      clear h2
      go_enter Tryz.func54, Tryz.ntmps54
      go_wp2_with (go_at_call 81; refine (nan_any _ _).mono ?_; rintro e w2 ⟨rfl, rfl⟩)
      go_ret
      exact ⟨rfl, rfl⟩
theorem clo_any (nm : Src) (x : Int) (b : Src) (w : World) : Calls Tryz.prog 53 #[.agg #[.string (Bs nm), .int .i64 x], .string (Bs b)] w fun e w' => e = .returned (.int .i64 (cmpS nm b)) ∧ Below w.heap.size w w' := by
  have HC := Lib.hid (fun W => cmpS_any nm b W)
  generalize Bs nm = A at *
  generalize Bs b = B at *
  generalize cmpS nm b = r at *
  go_enter Tryz.func53, Tryz.ntmps53
  go_wp2_with (go_at_call 54; refine (HC.out _).mono ?_; rintro e w2 ⟨rfl, rfl⟩)
  go_ret
  exact ⟨rfl, (Below.refl _ _).alloc (Nat.le_refl _) _⟩
theorem cmpS_lt {a b : Src} : cmpS a b < 0 ↔ ltB a b = true := by unfold cmpS; split <;> (try split) <;> simp_all
theorem cmpS_eq {a b : Src} : cmpS a b = 0 ↔ a = b := by
  unfold cmpS
  split
  · rename_i h
    constructor
    · intro e; cases e
    · rintro rfl; rw [ltB_irr] at h; cases h
  · split <;> simp_all
/-! Where a fact stands. -/
def fLess (l : List Ft) (nm : Src) (t : Nat) : Bool := decide (t < l.length) && ltB (l.getD t ft0).1 nm
def fI (l : List Ft) (nm : Src) : Nat := Lib.bsGo (fLess l nm) l.length 0 l.length
theorem ft_pair {l : List Ft} (h : l.Pairwise (fun a b => ltB a.1 b.1 = true)) {i j : Nat} (hij : i < j) (hj : j < l.length) : ltB (l.getD i ft0).1 (l.getD j ft0).1 = true := by
  have := List.pairwise_iff_getElem.1 h i j (by omega) hj hij
  rw [List.getD_eq_getElem?_getD, List.getD_eq_getElem?_getD, List.getElem?_eq_getElem hj, List.getElem?_eq_getElem (show i < l.length by omega)]
  exact this
theorem part_point (l : List Ft) (nm : Src) (h : l.Pairwise (fun a b => ltB a.1 b.1 = true)) : ∃ k, k ≤ l.length ∧ (∀ t, t < k → fLess l nm t = true) ∧ ∀ t, k ≤ t → fLess l nm t = false := by
  by_cases hall : ∀ t, t < l.length → ltB (l.getD t ft0).1 nm = true
  · exact ⟨l.length, Nat.le_refl _, fun t ht => by unfold fLess; rw [decide_eq_true ht, hall t ht]; rfl, fun t ht => by unfold fLess; rw [decide_eq_false (by omega)]; rfl⟩
  · have hex : ∃ k, k < l.length ∧ ltB (l.getD k ft0).1 nm = false := by
      refine Classical.byContradiction fun hn => hall fun t ht => ?_
      cases hb : ltB (l.getD t ft0).1 nm with
      | true => rfl
      | false => exact absurd ⟨t, ht, hb⟩ hn
    have hmin : ∀ n : Nat, (∃ k, k < n ∧ k < l.length ∧ ltB (l.getD k ft0).1 nm = false) → ∃ k, k < l.length ∧ ltB (l.getD k ft0).1 nm = false ∧ ∀ t, t < k → ltB (l.getD t ft0).1 nm = true := by
      intro n
      induction n with
      | zero => rintro ⟨k, h0, _⟩; omega
      | succ n ih =>
        rintro ⟨k, h0, h1, h2⟩
        by_cases hl : ∃ k', k' < n ∧ k' < l.length ∧ ltB (l.getD k' ft0).1 nm = false
        · exact ih hl
        · refine ⟨k, h1, h2, fun t ht => ?_⟩
          cases hb : ltB (l.getD t ft0).1 nm with
          | true => rfl
          | false => exact absurd ⟨t, by omega, by omega, hb⟩ hl
    obtain ⟨k0, hk0, hk0'⟩ := hex
    obtain ⟨k, hk, hf, ht⟩ := hmin (k0 + 1) ⟨k0, by omega, hk0, hk0'⟩
    refine ⟨k, Nat.le_of_lt hk, fun t h1 => by unfold fLess; rw [decide_eq_true (by omega), ht t h1]; rfl, fun t h1 => ?_⟩
    unfold fLess
    by_cases h2 : t < l.length
    · rw [decide_eq_true h2, Bool.true_and]
      rcases Nat.eq_or_lt_of_le h1 with rfl | h3
      · exact hf
      · cases hb : ltB (l.getD t ft0).1 nm with
        | false => rfl
        | true => rw [ltB_trans (ft_pair h h3 h2) hb] at hf; cases hf
    · rw [decide_eq_false h2]; rfl
def fHit (l : List Ft) (nm : Src) : Bool := decide (fI l nm < l.length) && (cmpS (l.getD (fI l nm) ft0).1 nm == 0)
theorem fact_at {l : List Ft} (h : l.Pairwise (fun a b => ltB a.1 b.1 = true)) (nm : Src) : fI l nm ≤ l.length ∧ factV l nm = if fHit l nm = true then some (l.getD (fI l nm) ft0).2 else none := by
  obtain ⟨k, hk, h1, h2⟩ := part_point l nm h
  have e : fI l nm = k := Lib.bsGo_spec _ k h1 h2 _ _ _ (by omega) (Nat.zero_le _) hk
  unfold fHit
  rw [e]
  refine ⟨hk, ?_⟩
  by_cases hh : k < l.length ∧ (l.getD k ft0).1 = nm
  · rw [if_pos (by rw [decide_eq_true hh.1, Bool.true_and, beq_iff_eq]; exact cmpS_eq.2 hh.2)]
    obtain ⟨hk1, hk2⟩ := hh
    refine (factV_mem h).2 ?_
    have : l.getD k ft0 = l[k] := by rw [List.getD_eq_getElem?_getD, List.getElem?_eq_getElem hk1]; rfl
    rw [← hk2, this]
    exact List.getElem_mem _
  · rw [if_neg (by
      intro hc
      rw [Bool.and_eq_true, decide_eq_true_eq, beq_iff_eq] at hc
      exact hh ⟨hc.1, cmpS_eq.1 hc.2⟩)]
    cases hv : factV l nm with
    | none => rfl
    | some v =>
      exfalso
      have hm := (factV_mem h).1 hv
      obtain ⟨j, hj, ej⟩ := List.getElem_of_mem hm
      have hgj : l.getD j ft0 = (nm, v) := by rw [List.getD_eq_getElem?_getD, List.getElem?_eq_getElem hj, ← ej]; rfl
      have hjk : k ≤ j := by
        refine Classical.byContradiction fun hn => ?_
        have := h1 j (by omega)
        unfold fLess at this
        rw [hgj, ltB_irr, Bool.and_false] at this
        cases this
      rcases Nat.eq_or_lt_of_le hjk with rfl | h3
      · exact hh ⟨hj, by rw [hgj]⟩
      · have h4 := ft_pair h h3 hj
        rw [hgj] at h4
        have h5 := h2 k (Nat.le_refl _)
        unfold fLess at h5
        rw [decide_eq_true (by omega), Bool.true_and, h4] at h5
        cases h5
theorem end2b {a : Int} {b b' : Bool} {a' : Int} (h : a = a') (h2 : b = b') : Ending.returned (.tuple #[.int .i64 a, .bool b]) = .returned (.tuple #[.int .i64 a', .bool b']) := by rw [h, h2]
set_option maxRecDepth 100000 in
set_option maxHeartbeats 4000000 in
theorem bs_any (l : List Ft) (nm : Src) (v : Value) (P : Nat → Prop) (w : World) (h : FtsM P w v l) (hn : l.length ≤ 1000) :
    Calls Tryz.prog 52 #[v, .string (Bs nm), .func (.func 53) #[] #[]] w fun e w' => e = .returned (.tuple #[.int .i64 (fI l nm : Nat), .bool (fHit l nm)]) ∧ Below w.heap.size w w' := by
  have HH : Hid (fHit l nm = (decide (fI l nm < l.length) && (cmpS (l.getD (fI l nm) ft0).1 nm == 0))) := rfl
  have hI : Lib.bsGo (fLess l nm) l.length 0 l.length = fI l nm := rfl
  generalize fHit l nm = hit at *
  generalize fI l nm = I at *
  have HI := Lib.hid hI
  have HS := Lib.hid h
  obtain ⟨A, cm, rfl⟩ := h.1.form
  have cmc := h.1.caps
  unfold maxLen at cmc
  generalize hnm : l.length = n at *
  have HN := Lib.hid hnm
  clear hnm hI h
  go_enter Tryz.func52, Tryz.ntmps52
  go_wp2
  go_loopg [9, 10] n (fun g s9 s10 wr => ∃ lo hi : Nat, s9 = .int .i64 lo ∧ s10 = .int .i64 hi ∧ lo ≤ hi ∧ hi ≤ n ∧ hi - lo ≤ g ∧ Below w.heap.size w wr ∧ Lib.bsGo (fLess l nm) g lo hi = I)
  case atStart => exact ⟨0, n, rfl, rfl, Nat.zero_le _, Nat.le_refl _, by omega, Below.refl _ _, HI.out⟩
  case round =>
    obtain ⟨lo, hi, rfl, rfl, hlh, hin, hg, hbl, hb⟩ := hrel
    have HBl := Lib.hid hbl
    have HBs := Lib.hid hb
    clear hb
    by_cases hlt : lo < hi
    · obtain ⟨b, off, rfl, -, hbb, hcell⟩ := FtsM.at_ (l := l) (n := n) HS.out (by rw [HN.out]; omega)
      obtain ⟨d0, d1⟩ := hcell ((lo + hi) / 2) (by rw [HN.out]; omega)
      have d0 : wr.cell? ⟨b, off + (lo + hi) / 2 * 2, none⟩ = some (.string (Bs (l.getD ((lo + hi) / 2) ft0).1)) := (hbl.cell (p := ⟨b, off + (lo + hi) / 2 * 2, none⟩) hbb).trans d0
      replace d1 := (hbl.cell (p := ⟨b, off + (lo + hi) / 2 * 2 + 1, none⟩) hbb).trans d1
      obtain ⟨g', rfl⟩ : ∃ g', gk = g' + 1 := ⟨gk - 1, by omega⟩
      have hbs := HBs.out
      simp only [Lib.bsGo, hlt, if_true] at hbs
      have hfl : fLess l nm ((lo + hi) / 2) = ltB (l.getD ((lo + hi) / 2) ft0).1 nm := by unfold fLess; rw [decide_eq_true (by rw [HN.out]; omega), Bool.true_and]
      rw [hfl] at hbs
      have HCm := fun W => Lib.hid (clo_any (l.getD ((lo + hi) / 2) ft0).1 (l.getD ((lo + hi) / 2) ft0).2 nm W)
      clear hcell hbl HBs hfl
      generalize l.getD ((lo + hi) / 2) ft0 = x at *
      generalize Bs nm = NM at *
      generalize hX : Bs x.1 = XM at *
      cases hx : ltB x.1 nm with
      | true =>
        simp only [hx, if_true] at hbs
        have hr : cmpS x.1 nm < 0 := cmpS_lt.2 hx
        have HBs := Lib.hid hbs
        clear hbs hx hX
        generalize cmpS x.1 nm = r at *
        generalize x.2 = x2 at *
        go_wp2_with (go_at_call 53; refine ((HCm _).out).mono ?_; rintro e w5 ⟨rfl, hb5⟩)
        go_roundg (hi - ((lo + hi) / 2 + 1))
        case measure => omega
        case rel => exact ⟨(lo + hi) / 2 + 1, hi, by rw [show ((lo : Int) + (hi : Int)) / 2 + 1 = (((lo + hi) / 2 + 1 : Nat) : Int) by omega], rfl, by omega, hin, Nat.le_refl _, HBl.out.trans (hb5.mono HBl.out.size), by rw [← HBs.out]; exact Lib.bsGo_fuel _ _ _ _ _ (by omega) (by omega)⟩
      | false =>
        simp only [hx, if_false, Bool.false_eq_true] at hbs
        have hr : ¬ cmpS x.1 nm < 0 := fun h => by rw [cmpS_lt.1 h] at hx; cases hx
        have HBs := Lib.hid hbs
        clear hbs hx hX
        generalize cmpS x.1 nm = r at *
        generalize x.2 = x2 at *
        go_wp2_with (go_at_call 53; refine ((HCm _).out).mono ?_; rintro e w5 ⟨rfl, hb5⟩)
        go_roundg ((lo + hi) / 2 - lo)
        case measure => omega
        case rel => exact ⟨lo, (lo + hi) / 2, rfl, by rw [show ((lo : Int) + (hi : Int)) / 2 = (((lo + hi) / 2 : Nat) : Int) by omega], by omega, by omega, Nat.le_refl _, HBl.out.trans (hb5.mono HBl.out.size), by rw [← HBs.out]; exact Lib.bsGo_fuel _ _ _ _ _ (by omega) (by omega)⟩
    · obtain rfl : hi = lo := by omega
      have hIe : I = hi := by
        rw [← HBs.out]
        cases gk <;> simp [Lib.bsGo]
      subst hIe
      by_cases hIn : I < n
      · obtain ⟨b, off, rfl, -, hbb, hcell⟩ := FtsM.at_ (l := l) (n := n) HS.out (by rw [HN.out]; omega)
        obtain ⟨d0, d1⟩ := hcell I (by rw [HN.out]; omega)
        have d0 : wr.cell? ⟨b, off + I * 2, none⟩ = some (.string (Bs (l.getD I ft0).1)) := (hbl.cell (p := ⟨b, off + I * 2, none⟩) hbb).trans d0
        replace d1 := (hbl.cell (p := ⟨b, off + I * 2 + 1, none⟩) hbb).trans d1
        have HCm := fun W => Lib.hid (clo_any (l.getD I ft0).1 (l.getD I ft0).2 nm W)
        have HHt : Hid (hit = (cmpS (l.getD I ft0).1 nm == 0)) := by unfold Hid; rw [HH.out, decide_eq_true hIn, Bool.true_and]
        clear hcell hbl HBs HH
        generalize l.getD I ft0 = x at *
        generalize Bs nm = NM at *
        generalize Bs x.1 = XM at *
        generalize cmpS x.1 nm = r at *
        generalize x.2 = x2 at *
        go_wp2_with (go_at_call 53; refine ((HCm _).out).mono ?_; rintro e w5 ⟨rfl, hb5⟩)
        go_ret2
        exact ⟨end2b rfl HHt.out.symm, HBl.out.trans (hb5.mono HBl.out.size)⟩
      · have HHt : Hid (hit = false) := by unfold Hid; rw [HH.out, decide_eq_false hIn]; simp
        clear hbl HH
        go_wp2
        go_ret2
        exact ⟨end2b rfl HHt.out.symm, HBl.out⟩
end Go.Proofs.YtonmpealebggoaaGreatDoor
namespace Go.Proofs.YtonmpealebggoaaGreatDoor
open Go.RowKit Pr
theorem FtsM.later {P : Nat → Prop} {w w' : World} {v : Value} {l : List Ft} (h : FtsM P w v l) (hb : Below w.heap.size w w') : FtsM P w' v l := ⟨h.1.later hb, h.2⟩
set_option maxRecDepth 100000 in
set_option maxHeartbeats 4000000 in
theorem value_any (l : List Ft) (nm : Src) (v : Value) (P : Nat → Prop) (w : World) (h : FtsM P w v l) (ho : FtsOk l) :
    Calls Tryz.prog 34 #[v, .string (Bs nm)] w fun e w' => (∃ x b, e = .returned (.tuple #[.int .i64 x, .bool b]) ∧ factV l nm = if b = true then some x else none) ∧ Below w.heap.size w w' := by
  have HB := Lib.hid (bs_any l nm v P w h (Nat.le_trans ho.1 (by decide)))
  obtain ⟨hI, hV⟩ := fact_at ho.2.2 nm
  have HV := Lib.hid hV
  have HI : Hid (fHit l nm = true → fI l nm < l.length) := fun hh => by
    unfold fHit at hh
    rw [Bool.and_eq_true, decide_eq_true_eq] at hh
    exact hh.1
  have HS := Lib.hid h
  obtain ⟨A, cm, rfl⟩ := h.1.form
  clear h hV
  generalize Bs nm = NM at *
  generalize factV l nm = V at *
  generalize fI l nm = I at *
  generalize fHit l nm = hit at *
  generalize hn : l.length = n at *
  have HN := Lib.hid hn
  clear hn
  go_enter Tryz.func34, Tryz.ntmps34
  go_wp2_with fail
  refine HB.out.mono ?_
  rintro e w2 ⟨rfl, hb2⟩
  cases hit with
  | false =>
    have HB2 := Lib.hid hb2
    go_wp2_with fail
    go_ret2
    exact ⟨⟨0, false, rfl, HV.out⟩, HB2.out⟩
  | true =>
    have hlt := HI.out rfl
    obtain ⟨b, off, rfl, -, hbb, hcell⟩ := FtsM.at_ (l := l) (n := n) HS.out (by rw [HN.out]; omega)
    obtain ⟨d0, d1⟩ := hcell I (by rw [HN.out]; omega)
    replace d1 := (hb2.cell (p := ⟨b, off + I * 2 + 1, none⟩) hbb).trans d1
    have HB2 := Lib.hid hb2
    have HVx := Lib.hid HV.out
    clear hcell d0 hb2 HV
    generalize (l.getD I ft0).2 = x at *
    go_wp2_with fail
    go_ret2
    exact ⟨⟨x, true, rfl, HVx.out⟩, HB2.out⟩
end Go.Proofs.YtonmpealebggoaaGreatDoor
namespace Go.Proofs.YtonmpealebggoaaGreatDoor
open Go.RowKit Pr
theorem fact_size {l : List Ft} (ho : FtsOk l) {nm : Src} {x : Int} (h : factV l nm = some x) : -2147483648 ≤ x ∧ x ≤ 2147483648 := by
  have hm := (factV_mem ho.2.2).1 h
  have := ho.2.1 _ hm
  exact ⟨this.lo, this.hi⟩
theorem mul_bound {a b : Int} (h1 : -1000 ≤ a) (h2 : a ≤ 1000) (h3 : -2147483648 ≤ b) (h4 : b ≤ 2147483648) : -2147483648000 ≤ a * b ∧ a * b ≤ 2147483648000 := by
  rcases Int.le_total 0 a with ha | ha <;> rcases Int.le_total 0 b with hb | hb
  · have e1 := Int.mul_nonneg ha hb
    have e2 := Int.mul_le_mul h2 h4 hb (by decide)
    omega
  · have e1 := Int.mul_nonneg ha (show 0 ≤ -b by omega)
    have e2 := Int.mul_le_mul h2 (show -b ≤ 2147483648 by omega) (by omega) (by decide)
    rw [Int.mul_neg] at e1 e2
    omega
  · have e1 := Int.mul_nonneg (show 0 ≤ -a by omega) hb
    have e2 := Int.mul_le_mul (show -a ≤ 1000 by omega) h4 hb (by decide)
    rw [Int.neg_mul] at e1 e2
    omega
  · have e1 := Int.mul_nonneg (show 0 ≤ -a by omega) (show 0 ≤ -b by omega)
    have e2 := Int.mul_le_mul (show -a ≤ 1000 by omega) (show -b ≤ 2147483648 by omega) (by omega) (by decide)
    rw [Int.neg_mul_neg] at e1 e2
    omega
set_option maxRecDepth 100000 in
set_option maxHeartbeats 8000000 in
theorem truth_cmp (f : Nat) (c : Cd) (l : List Ft) (v : V5) (fv : Value) (P Q : Nat → Prop) (w : World) (hk : c.kind = 0) (hc : compareE c = 0) (hv : CdV P w v c) (hf : FtsM Q w fv l) (ho : FtsOk l) :
    Calls Tryz.prog 14 #[v.val, fv] w fun e w' => e = .returned (.int .i64 (truthF (f + 1) l c)) ∧ Below w.heap.size w w' := by
  obtain ⟨-, -, hc0, hc5, -, -, hT, hl8⟩ := compare_parts hc
  obtain ⟨tv, dv, vs, rfl, ht, hd, -, -, hz, -⟩ := hv.open_
  clear hv hc
  obtain ⟨k0, ts, cm, n, ks⟩ := c
  dsimp only [Cd.kind, Cd.terms, Cd.cmp, Cd.than, Cd.kids, V5.val] at *
  subst hk
  have HR : Hid (truthF (f + 1) l (.mk 0 ts cm n ks) = match sumV l ts 0 with | none => 2 | some x => if cmpB cm x n = true then 1 else 0) := rfl
  generalize truthF (f + 1) l (.mk 0 ts cm n ks) = T at *
  obtain ⟨tA, tc, rfl⟩ := ht.form
  obtain ⟨dA, dc, rfl⟩ := hd.form
  have HM := Lib.hid ht
  have HV := Lib.hid (fun nm W (hW : Below w.heap.size w W) => value_any l nm fv Q W (hf.later hW) ho)
  obtain ⟨fA, fc, rfl⟩ := hf.1.form
  have HTm := Lib.hid hT
  have HFs := Lib.hid (fun nm x => fact_size ho (nm := nm) (x := x))
  have HB0 := Lib.hid ((Below.refl w.heap.size w).alloc (Nat.le_refl _) (.cells #[.int .i64 0, .slice tA ts.length tc, .int .i64 cm, .int .i64 n, .slice dA ks.length dc] 25))
  have hbk := Blk.new w 25 #[.int .i64 0, .slice tA ts.length tc, .int .i64 cm, .int .i64 n, .slice dA ks.length dc]
  have HBk := Lib.hid hbk
  clear ht hd hf hT hz ho
  generalize l.length = fn at *
  generalize ks.length = kn at *
  generalize htn : ts.length = tn at *
  have HN := Lib.hid htn
  clear htn
  go_enter Tryz.func14, Tryz.ntmps14
  go_upto_region 1 with (fail)
  generalize w.alloc (.cells #[.int .i64 0, .slice tA tn tc, .int .i64 cm, .int .i64 n, .slice dA kn dc] 25) = w1 at *
  obtain ⟨y0, y1, y2, y3, y4⟩ := b5_cells hbk
  have yl := hbk.lt
  clear hbk
  go_wp2_with fail
  go_loopw [8, 10, 11, 12, 66] (fun v8 _ _ _ v66 wr => ∃ (i : Nat) (acc : Int), i ≤ tn ∧ v66 = .int .i64 i ∧ v8 = .int .i64 acc ∧ sumV l ts 0 = sumV l (ts.drop i) acc ∧ -(2147483648000 * (i : Int)) ≤ acc ∧ acc ≤ 2147483648000 * (i : Int) ∧ Below w1.heap.size w1 wr) (fun _ _ _ _ v66 _ => tn - (intOf v66).toNat)
  case atStart => exact ⟨0, 0, Nat.zero_le _, rfl, rfl, rfl, by omega, by omega, Below.refl _ _⟩
  case round =>
    obtain ⟨i, acc, hi, rfl, rfl, hs, ha1, ha2, hb⟩ := hrel
    have HS := Lib.hid hs
    have HB := Lib.hid hb
    have HBw := Lib.hid (HB0.out.trans (hb.mono HB0.out.size))
    have hsz := hb.size
    clear hs
    by_cases hlt : i < tn
    · have t0 : decide ((i : Int) < (tn : Int)) = true := by simp; omega
      obtain ⟨b, off, rfl, -, hbl, hcl⟩ := tm_at (by rw [HN.out]; exact HM.out) (by rw [HN.out]; omega)
      obtain ⟨q0, q1⟩ := hcl i (by rw [HN.out]; exact hlt)
      have q0 : wr.cell? ⟨b, off + i * 2, none⟩ = some (.int .i64 (ts.getD i tm0).1) := (HBw.out.cell (p := ⟨b, off + i * 2, none⟩) hbl).trans q0
      have q1 : wr.cell? ⟨b, off + i * 2 + 1, none⟩ = some (.string (Bs (ts.getD i tm0).2)) := (HBw.out.cell (p := ⟨b, off + i * 2 + 1, none⟩) hbl).trans q1
      have hbl2 := Nat.lt_of_lt_of_le hbl HBw.out.size
      have hmem : ts.getD i tm0 ∈ ts := by rw [List.getD_eq_getElem?_getD, List.getElem?_eq_getElem (by rw [HN.out]; exact hlt)]; exact List.getElem_mem _
      have hok := HTm.out _ hmem
      have ht1 := hok.lo
      have ht2 := hok.hi
      have HStep : Hid (sumV l (ts.drop i) acc = match factV l (ts.getD i tm0).2 with | none => none | some x => sumV l (ts.drop (i + 1)) (acc + (ts.getD i tm0).1 * x)) := by
        unfold Hid
        have h1 : ts.drop i = ts.getD i tm0 :: ts.drop (i + 1) := by rw [List.drop_eq_getElem_cons (by rw [HN.out]; exact hlt), List.getD_eq_getElem?_getD, List.getElem?_eq_getElem (by rw [HN.out]; exact hlt)]; rfl
        rw [h1]
        rfl
      have HVi := Lib.hid (HV.out (ts.getD i tm0).2)
      have HFi := Lib.hid (HFs.out (ts.getD i tm0).2)
      clear hcl hok hmem hbl
      generalize ts.getD i tm0 = x at *
      generalize factV l x.2 = V at *
      generalize Bs x.2 = NM at *
      generalize x.1 = xt at *
      have hbn : Below wr.heap.size wr (wr.alloc (.cells #[.int .i64 xt, .string NM] 80)) := (Below.refl _ _).alloc (Nat.le_refl _) _
      have HBn := Lib.hid (HBw.out.trans (hbn.mono HBw.out.size))
      have HBn1 := Lib.hid (HB.out.trans (hbn.mono HB.out.size))
      have hbt := Blk.new wr 80 #[.int .i64 xt, .string NM]
      have HBt := Lib.hid hbt
      have hbtl := hbt.lt
      clear hbt hbn
      go_wp2_with fail
      refine (HVi.out _ HBn.out).mono ?_
      rintro e w5 ⟨⟨y, bb, rfl, hVy⟩, hb5⟩
      have HB5 := Lib.hid (HBn.out.trans (hb5.mono HBn.out.size))
      have HB51 := Lib.hid (HBn1.out.trans (hb5.mono HBn1.out.size))
      obtain ⟨z0, z1, -, -, -⟩ := two_cells (HBt.out.below hb5 hbtl)
      have hzl := (HBt.out.below hb5 hbtl).lt
      clear hb5
      cases bb with
      | false =>
        have HTn := Lib.hid (show T = 2 by rw [HR.out, HS.out, HStep.out, hVy]; rfl)
        clear hVy
        go_wp2_with fail
        go_ret
        exact ⟨by rw [HTn.out]; rfl, HB5.out⟩
      | true =>
        have hVy : V = some y := hVy
        have HS2 := Lib.hid (show sumV l ts 0 = sumV l (ts.drop (i + 1)) (acc + xt * y) by rw [HS.out, HStep.out, hVy])
        have hy := HFi.out y hVy
        have hm := mul_bound ht1 ht2 hy.1 hy.2
        have w1' : IntKind.i64.wrap (xt * y) = xt * y := IntWalk.i64_in _ (by omega)
        have w2' : IntKind.i64.wrap (acc + xt * y) = acc + xt * y := IntWalk.i64_in _ (by omega)
        clear hVy
        go_wp2_with fail
        go_roundw
        case rel => exact ⟨i + 1, acc + xt * y, by omega, by go_num, rfl, HS2.out, by omega, by omega, HB51.out⟩
        case measure => simp [intOf]; omega
    · have t0 : decide ((i : Int) < (tn : Int)) = false := by simp; omega
      obtain rfl : i = tn := by omega
      have HSx := Lib.hid (show sumV l ts 0 = some acc by rw [HS.out, ← HN.out, List.drop_length]; rfl)
      have HTe := Lib.hid (show T = if cmpB cm acc n = true then 1 else 0 by rw [HR.out, HSx.out])
      obtain ⟨x0, x1, x2, x3, x4⟩ := b5_cells (HBk.out.below hb HBk.out.lt)
      have xl := (HBk.out.below hb HBk.out.lt).lt
      have HCm := Lib.hid (fun W => cmp_Compare_int acc n W)
      have hk : cm = 0 ∨ cm = 1 ∨ cm = 2 ∨ cm = 3 ∨ cm = 4 ∨ cm = 5 := by omega
      have HX : Hid (∀ X, X = Lib.compareInt acc n → decide (X < 0) = decide (acc < n) ∧ decide (X ≤ 0) = decide (acc ≤ n) ∧ (X == 0) = decide (acc = n) ∧ (X != 0) = decide (acc ≠ n) ∧ decide (X ≥ 0) = decide (acc ≥ n) ∧ decide (X > 0) = decide (acc > n)) := by
        rintro X rfl
        unfold Lib.compareInt
        by_cases h1 : acc < n
        · rw [if_pos h1]
          refine ⟨by simp; omega, by simp; omega, ?_, ?_, by simp; omega, by simp; omega⟩
          · rw [decide_eq_false (by omega)]; rfl
          · rw [decide_eq_true (by omega)]; rfl
        · rw [if_neg h1]
          by_cases h2 : acc > n
          · rw [if_pos h2]
            refine ⟨by simp; omega, by simp; omega, ?_, ?_, by simp; omega, by simp; omega⟩
            · rw [decide_eq_false (by omega)]; rfl
            · rw [decide_eq_true (by omega)]; rfl
          · rw [if_neg h2]
            refine ⟨by simp; omega, by simp; omega, ?_, ?_, by simp; omega, by simp; omega⟩
            · rw [decide_eq_true (by omega)]; rfl
            · rw [decide_eq_false (by omega)]; rfl
      obtain ⟨c1, c2, c3, c4, c5, c6⟩ := HX.out _ rfl
      generalize Lib.compareInt acc n = X at *
      clear hb HX
      rcases hk with rfl | rfl | rfl | rfl | rfl | rfl
      · clear c2 c3 c4 c5 c6
        have hcb : cmpB 0 acc n = decide (acc < n) := rfl
        cases hbb : decide (acc < n) with
        | false =>
          rw [hbb] at c1 hcb
          have HT2 := Lib.hid (show T = 0 by rw [HTe.out, hcb]; rfl)
          clear hbb hcb HTe
          go_wp2_with fail
          refine (HCm.out _).mono ?_
          rintro e w5 ⟨rfl, rfl⟩
          go_wp2_with fail
          go_ret
          exact ⟨by rw [HT2.out]; rfl, HBw.out.alloc HBw.out.size _⟩
        | true =>
          rw [hbb] at c1 hcb
          have HT2 := Lib.hid (show T = 1 by rw [HTe.out, hcb]; rfl)
          clear hbb hcb HTe
          go_wp2_with fail
          refine (HCm.out _).mono ?_
          rintro e w5 ⟨rfl, rfl⟩
          go_wp2_with fail
          go_ret
          exact ⟨by rw [HT2.out]; rfl, HBw.out.alloc HBw.out.size _⟩
      · clear c1 c3 c4 c5 c6
        have hcb : cmpB 1 acc n = decide (acc ≤ n) := rfl
        cases hbb : decide (acc ≤ n) with
        | false =>
          rw [hbb] at c2 hcb
          have HT2 := Lib.hid (show T = 0 by rw [HTe.out, hcb]; rfl)
          clear hbb hcb HTe
          go_wp2_with fail
          refine (HCm.out _).mono ?_
          rintro e w5 ⟨rfl, rfl⟩
          go_wp2_with fail
          go_ret
          exact ⟨by rw [HT2.out]; rfl, HBw.out.alloc HBw.out.size _⟩
        | true =>
          rw [hbb] at c2 hcb
          have HT2 := Lib.hid (show T = 1 by rw [HTe.out, hcb]; rfl)
          clear hbb hcb HTe
          go_wp2_with fail
          refine (HCm.out _).mono ?_
          rintro e w5 ⟨rfl, rfl⟩
          go_wp2_with fail
          go_ret
          exact ⟨by rw [HT2.out]; rfl, HBw.out.alloc HBw.out.size _⟩
      · clear c1 c2 c4 c5 c6
        have hcb : cmpB 2 acc n = decide (acc = n) := rfl
        cases hbb : decide (acc = n) with
        | false =>
          rw [hbb] at c3 hcb
          have HT2 := Lib.hid (show T = 0 by rw [HTe.out, hcb]; rfl)
          clear hbb hcb HTe
          go_wp2_with fail
          refine (HCm.out _).mono ?_
          rintro e w5 ⟨rfl, rfl⟩
          go_wp2_with fail
          go_ret
          exact ⟨by rw [HT2.out]; rfl, HBw.out.alloc HBw.out.size _⟩
        | true =>
          rw [hbb] at c3 hcb
          have HT2 := Lib.hid (show T = 1 by rw [HTe.out, hcb]; rfl)
          clear hbb hcb HTe
          go_wp2_with fail
          refine (HCm.out _).mono ?_
          rintro e w5 ⟨rfl, rfl⟩
          go_wp2_with fail
          go_ret
          exact ⟨by rw [HT2.out]; rfl, HBw.out.alloc HBw.out.size _⟩
      · clear c1 c2 c3 c5 c6
        have hcb : cmpB 3 acc n = decide (acc ≠ n) := rfl
        cases hbb : decide (acc ≠ n) with
        | false =>
          rw [hbb] at c4 hcb
          have HT2 := Lib.hid (show T = 0 by rw [HTe.out, hcb]; rfl)
          clear hbb hcb HTe
          go_wp2_with fail
          refine (HCm.out _).mono ?_
          rintro e w5 ⟨rfl, rfl⟩
          go_wp2_with fail
          go_ret
          exact ⟨by rw [HT2.out]; rfl, HBw.out.alloc HBw.out.size _⟩
        | true =>
          rw [hbb] at c4 hcb
          have HT2 := Lib.hid (show T = 1 by rw [HTe.out, hcb]; rfl)
          clear hbb hcb HTe
          go_wp2_with fail
          refine (HCm.out _).mono ?_
          rintro e w5 ⟨rfl, rfl⟩
          go_wp2_with fail
          go_ret
          exact ⟨by rw [HT2.out]; rfl, HBw.out.alloc HBw.out.size _⟩
      · clear c1 c2 c3 c4 c6
        have hcb : cmpB 4 acc n = decide (acc ≥ n) := rfl
        cases hbb : decide (acc ≥ n) with
        | false =>
          rw [hbb] at c5 hcb
          have HT2 := Lib.hid (show T = 0 by rw [HTe.out, hcb]; rfl)
          clear hbb hcb HTe
          go_wp2_with fail
          refine (HCm.out _).mono ?_
          rintro e w5 ⟨rfl, rfl⟩
          go_wp2_with fail
          go_ret
          exact ⟨by rw [HT2.out]; rfl, HBw.out.alloc HBw.out.size _⟩
        | true =>
          rw [hbb] at c5 hcb
          have HT2 := Lib.hid (show T = 1 by rw [HTe.out, hcb]; rfl)
          clear hbb hcb HTe
          go_wp2_with fail
          refine (HCm.out _).mono ?_
          rintro e w5 ⟨rfl, rfl⟩
          go_wp2_with fail
          go_ret
          exact ⟨by rw [HT2.out]; rfl, HBw.out.alloc HBw.out.size _⟩
      · clear c1 c2 c3 c4 c5
        have hcb : cmpB 5 acc n = decide (acc > n) := rfl
        cases hbb : decide (acc > n) with
        | false =>
          rw [hbb] at c6 hcb
          have HT2 := Lib.hid (show T = 0 by rw [HTe.out, hcb]; rfl)
          clear hbb hcb HTe
          go_wp2_with fail
          refine (HCm.out _).mono ?_
          rintro e w5 ⟨rfl, rfl⟩
          go_wp2_with fail
          go_ret
          exact ⟨by rw [HT2.out]; rfl, HBw.out.alloc HBw.out.size _⟩
        | true =>
          rw [hbb] at c6 hcb
          have HT2 := Lib.hid (show T = 1 by rw [HTe.out, hcb]; rfl)
          clear hbb hcb HTe
          go_wp2_with fail
          refine (HCm.out _).mono ?_
          rintro e w5 ⟨rfl, rfl⟩
          go_wp2_with fail
          go_ret
          exact ⟨by rw [HT2.out]; rfl, HBw.out.alloc HBw.out.size _⟩
end Go.Proofs.YtonmpealebggoaaGreatDoor
namespace Go.Proofs.YtonmpealebggoaaGreatDoor
open Go.RowKit Pr
def TrAt (f : Nat) : Prop := ∀ (c : Cd) (l : List Ft) (v : V5) (fv : Value) (P Q : Nat → Prop) (w : World), VC f c → CdV P w v c → FtsM Q w fv l → FtsOk l →
    Calls Tryz.prog 14 #[v.val, fv] w fun e w' => e = .returned (.int .i64 (truthF f l c)) ∧ Below w.heap.size w w'
theorem kid_at2 {P : Nat → Prop} {w : World} {kids : List Cd} {A : Option Addr} {n cp : Nat} {vs : List V5} (hd : SlM w P (.slice A n cp) kids.length (v5cs vs)) (hl : vs.length = kids.length) (hkid : ∀ j (h : j < kids.length) (h2 : j < vs.length), CdV P w vs[j] kids[j]) (h0 : 0 < kids.length) :
    ∃ b off, A = some ⟨b, off, none⟩ ∧ b < w.heap.size ∧ ∀ i (hi : i < kids.length), ∃ A1 c1 A2 c2, CdV P w ⟨.int .i64 kids[i].kind, .slice A1 kids[i].terms.length c1, .int .i64 kids[i].cmp, .int .i64 kids[i].than, .slice A2 kids[i].kids.length c2⟩ kids[i] ∧
      w.cell? ⟨b, off + i * 5, none⟩ = some (.int .i64 kids[i].kind) ∧ w.cell? ⟨b, off + i * 5 + 1, none⟩ = some (.slice A1 kids[i].terms.length c1) ∧ w.cell? ⟨b, off + i * 5 + 2, none⟩ = some (.int .i64 kids[i].cmp) ∧ w.cell? ⟨b, off + i * 5 + 3, none⟩ = some (.int .i64 kids[i].than) ∧ w.cell? ⟨b, off + i * 5 + 4, none⟩ = some (.slice A2 kids[i].kids.length c2) := by
  obtain ⟨b, off, hA, -, hb, hc⟩ := v5_at (l := vs) (by rw [hl]; exact hd) (by omega)
  refine ⟨b, off, hA, hb, fun i hi => ?_⟩
  obtain ⟨q0, q1, q2, q3, q4⟩ := hc i (by omega)
  have hk := hkid i hi (by omega)
  generalize vs[i]'(by omega) = u at *
  obtain ⟨tv2, dv2, vs2, rfl, ht2, hd2, -⟩ := hk.open_
  obtain ⟨A2, cp2, rfl⟩ := ht2.form
  obtain ⟨A3, cp3, rfl⟩ := hd2.form
  exact ⟨A2, cp2, A3, cp3, hk, q0, q1, q2, q3, q4⟩
set_option maxRecDepth 100000 in
set_option maxHeartbeats 8000000 in
theorem truth_not (f : Nat) (HI : TrAt f) (a : Cd) (l : List Ft) (v : V5) (fv : Value) (P Q : Nat → Prop) (w : World) (ha : VC f a) (hv : CdV P w v (.mk 1 [] 0 0 [a])) (hf : FtsM Q w fv l) (ho : FtsOk l) :
    Calls Tryz.prog 14 #[v.val, fv] w fun e w' => e = .returned (.int .i64 (truthF (f + 1) l (.mk 1 [] 0 0 [a]))) ∧ Below w.heap.size w w' := by
  obtain ⟨tv, dv, vs, rfl, ht, hd, hl, hkid, -, -⟩ := hv.open_
  dsimp only [Cd.kind, Cd.terms, Cd.cmp, Cd.than, Cd.kids, V5.val] at *
  have HR : Hid (truthF (f + 1) l (.mk 1 [] 0 0 [a]) = if truthF f l a = 0 then 1 else if truthF f l a = 1 then 0 else 2) := rfl
  generalize truthF (f + 1) l (.mk 1 [] 0 0 [a]) = T at *
  obtain ⟨tA, tc, rfl⟩ := ht.form
  obtain ⟨dA, dc, rfl⟩ := hd.form
  obtain ⟨b, off, rfl, hb, hc⟩ := kid_at2 hd hl hkid (by simp)
  obtain ⟨A1, c1, A2, c2, hk, q0, q1, q2, q3, q4⟩ := hc 0 (by simp)
  simp only [List.getElem_cons_zero] at hk q0 q1 q2 q3 q4
  rw [Nat.zero_mul, Nat.add_zero] at q0 q1 q2 q3 q4
  have HCa := Lib.hid (fun W (hW : Below w.heap.size w W) => HI a l _ fv P Q W ha (hk.later hW) (hf.later hW) ho)
  obtain ⟨fA, fc, rfl⟩ := hf.1.form
  have htr := truth_cases f l a
  dsimp only [V5.val, List.length_cons, List.length_nil] at *
  clear hv ht hd hl hkid hc hk hf ho ha
  generalize l.length = fn at *
  generalize truthF f l a = t at *
  generalize a.terms.length = n1 at *
  generalize a.kids.length = n2 at *
  generalize a.kind = k0 at *
  generalize a.cmp = k2 at *
  generalize a.than = k3 at *
  go_enter Tryz.func14, Tryz.ntmps14
  go_wp2_with fail
  have hbx : Below w.heap.size w ((w.alloc (.cells #[.int .i64 1, .slice tA 0 tc, .int .i64 0, .int .i64 0, .slice (some ⟨b, off, none⟩) 1 dc] 25)).alloc (.cells #[.int .i64 1, .int .i64 0, .int .i64 2] 3)) := ((Below.refl _ _).alloc (Nat.le_refl _) _).alloc (by simp) _
  have hbk := Blk.new (w.alloc (.cells #[.int .i64 1, .slice tA 0 tc, .int .i64 0, .int .i64 0, .slice (some ⟨b, off, none⟩) 1 dc] 25)) 3 #[.int .i64 1, .int .i64 0, .int .i64 2]
  rw [show (w.alloc (.cells #[.int .i64 1, .slice tA 0 tc, .int .i64 0, .int .i64 0, .slice (some ⟨b, off, none⟩) 1 dc] 25)).heap.size = w.heap.size + 1 by simp] at hbk
  have HCx := Lib.hid (HCa.out _ hbx)
  have HBx := Lib.hid hbx
  have HBk := Lib.hid hbk
  clear hbx hbk q0 q1 q2 q3 q4 HCa
  generalize (w.alloc (.cells #[.int .i64 1, .slice tA 0 tc, .int .i64 0, .int .i64 0, .slice (some ⟨b, off, none⟩) 1 dc] 25)).alloc (.cells #[.int .i64 1, .int .i64 0, .int .i64 2] 3) = w1 at *
  refine HCx.out.mono ?_
  rintro e w5 ⟨rfl, hb5⟩
  have HB5 := Lib.hid (HBx.out.trans (hb5.mono HBx.out.size))
  have hk5 := HBk.out.below hb5 HBk.out.lt
  have z0 : w5.cell? ⟨w.heap.size + 1, 0, none⟩ = some (.int .i64 1) := by simpa using hk5.cell 0
  have z1 : w5.cell? ⟨w.heap.size + 1, 1, none⟩ = some (.int .i64 0) := by simpa using hk5.cell 1
  have z2 : w5.cell? ⟨w.heap.size + 1, 2, none⟩ = some (.int .i64 2) := by simpa using hk5.cell 2
  have zl := hk5.lt
  clear hb5 hk5 HCx HBx HBk
  rcases htr with rfl | rfl | rfl
  all_goals
    have HT := Lib.hid HR.out
    clear HR
    go_wp2_with fail
    go_ret
    exact ⟨by rw [HT.out]; rfl, HB5.out⟩
set_option maxRecDepth 100000 in
set_option maxHeartbeats 16000000 in
theorem truth_two (f : Nat) (HI : TrAt f) (kd : Int) (hkd : kd = 2 ∨ kd = 3) (a d : Cd) (l : List Ft) (v : V5) (fv : Value) (P Q : Nat → Prop) (w : World) (ha : VC f a) (hda : VC f d) (hv : CdV P w v (.mk kd [] 0 0 [a, d])) (hf : FtsM Q w fv l) (ho : FtsOk l) :
    Calls Tryz.prog 14 #[v.val, fv] w fun e w' => e = .returned (.int .i64 (truthF (f + 1) l (.mk kd [] 0 0 [a, d]))) ∧ Below w.heap.size w w' := by
  obtain ⟨tv, dv, vs, rfl, ht, hd, hl, hkid, -, -⟩ := hv.open_
  dsimp only [Cd.kind, Cd.terms, Cd.cmp, Cd.than, Cd.kids, V5.val] at *
  have HR : Hid (truthF (f + 1) l (.mk kd [] 0 0 [a, d]) = if kd = 1 then (if truthF f l a = 0 then 1 else if truthF f l a = 1 then 0 else 2) else if kd = 2 ∨ kd = 3 then
      (if truthF f l a = (if kd = 3 then 1 else 0) ∨ truthF f l d = (if kd = 3 then 1 else 0) then (if kd = 3 then 1 else 0) else if truthF f l a = 2 ∨ truthF f l d = 2 then 2 else truthF f l a) else 0) := by
    show (if kd = 1 then _ else if kd = 2 ∨ kd = 3 then _ else _) = _
    rcases hkd with rfl | rfl <;> rfl
  generalize truthF (f + 1) l (.mk kd [] 0 0 [a, d]) = T at *
  obtain ⟨tA, tc, rfl⟩ := ht.form
  obtain ⟨dA, dc, rfl⟩ := hd.form
  obtain ⟨b, off, rfl, hb, hc⟩ := kid_at2 hd hl hkid (by simp)
  obtain ⟨A1, c1, A2, c2, hk, q0, q1, q2, q3, q4⟩ := hc 0 (by simp)
  obtain ⟨A3, c3, A4, c4, hk2, r0, r1, r2, r3, r4⟩ := hc 1 (by simp)
  simp only [List.getElem_cons_zero, List.getElem_cons_succ] at hk q0 q1 q2 q3 q4 hk2 r0 r1 r2 r3 r4
  rw [Nat.zero_mul, Nat.add_zero] at q0 q1 q2 q3 q4
  rw [Nat.one_mul] at r0 r1 r2 r3 r4
  have HCa := Lib.hid (fun W (hW : Below w.heap.size w W) => HI a l _ fv P Q W ha (hk.later hW) (hf.later hW) ho)
  have HCd := Lib.hid (fun W (hW : Below w.heap.size w W) => HI d l _ fv P Q W hda (hk2.later hW) (hf.later hW) ho)
  obtain ⟨fA, fc, rfl⟩ := hf.1.form
  have htr := truth_cases f l a
  have htr2 := truth_cases f l d
  dsimp only [V5.val, List.length_cons, List.length_nil] at *
  clear hv ht hd hl hkid hc hk hk2 hf ho ha hda
  generalize l.length = fn at *
  generalize truthF f l a = t at *
  generalize truthF f l d = t2 at *
  generalize a.terms.length = n1 at *
  generalize a.kids.length = n2 at *
  generalize a.kind = k0 at *
  generalize a.cmp = k2 at *
  generalize a.than = k3 at *
  generalize d.terms.length = m1 at *
  generalize d.kids.length = m2 at *
  generalize d.kind = j0 at *
  generalize d.cmp = j2 at *
  generalize d.than = j3 at *
  have hbx : Below w.heap.size w (w.alloc (.cells #[.int .i64 kd, .slice tA 0 tc, .int .i64 0, .int .i64 0, .slice (some ⟨b, off, none⟩) 2 dc] 25)) := (Below.refl _ _).alloc (Nat.le_refl _) _
  have hbk := Blk.new w 25 #[.int .i64 kd, .slice tA 0 tc, .int .i64 0, .int .i64 0, .slice (some ⟨b, off, none⟩) 2 dc]
  have hb1 := Nat.lt_of_lt_of_le hb hbx.size
  replace q0 := (hbx.cell (p := ⟨b, _, none⟩) hb).trans q0
  replace q1 := (hbx.cell (p := ⟨b, _, none⟩) hb).trans q1
  replace q2 := (hbx.cell (p := ⟨b, _, none⟩) hb).trans q2
  replace q3 := (hbx.cell (p := ⟨b, _, none⟩) hb).trans q3
  replace q4 := (hbx.cell (p := ⟨b, _, none⟩) hb).trans q4
  replace r0 := (hbx.cell (p := ⟨b, _, none⟩) hb).trans r0
  replace r1 := (hbx.cell (p := ⟨b, _, none⟩) hb).trans r1
  replace r2 := (hbx.cell (p := ⟨b, _, none⟩) hb).trans r2
  replace r3 := (hbx.cell (p := ⟨b, _, none⟩) hb).trans r3
  replace r4 := (hbx.cell (p := ⟨b, _, none⟩) hb).trans r4
  have hsz1 : w.heap.size < (w.alloc (.cells #[.int .i64 kd, .slice tA 0 tc, .int .i64 0, .int .i64 0, .slice (some ⟨b, off, none⟩) 2 dc] 25)).heap.size := by simp
  have HBx := Lib.hid hbx
  have HC1 : Hid (∀ W, Below (w.alloc (.cells #[.int .i64 kd, .slice tA 0 tc, .int .i64 0, .int .i64 0, .slice (some ⟨b, off, none⟩) 2 dc] 25)).heap.size (w.alloc (.cells #[.int .i64 kd, .slice tA 0 tc, .int .i64 0, .int .i64 0, .slice (some ⟨b, off, none⟩) 2 dc] 25)) W → Calls Tryz.prog 14 #[.agg #[.int .i64 k0, .slice A1 n1 c1, .int .i64 k2, .int .i64 k3, .slice A2 n2 c2], .slice fA fn fc] W fun e w' => e = .returned (.int .i64 t) ∧ Below W.heap.size W w') := fun W hW => HCa.out W (HBx.out.trans (hW.mono HBx.out.size))
  have HC2 : Hid (∀ W, Below (w.alloc (.cells #[.int .i64 kd, .slice tA 0 tc, .int .i64 0, .int .i64 0, .slice (some ⟨b, off, none⟩) 2 dc] 25)).heap.size (w.alloc (.cells #[.int .i64 kd, .slice tA 0 tc, .int .i64 0, .int .i64 0, .slice (some ⟨b, off, none⟩) 2 dc] 25)) W → Calls Tryz.prog 14 #[.agg #[.int .i64 j0, .slice A3 m1 c3, .int .i64 j2, .int .i64 j3, .slice A4 m2 c4], .slice fA fn fc] W fun e w' => e = .returned (.int .i64 t2) ∧ Below W.heap.size W w') := fun W hW => HCd.out W (HBx.out.trans (hW.mono HBx.out.size))
  obtain ⟨y0, y1, y2, y3, y4⟩ : (w.alloc (.cells #[.int .i64 kd, .slice tA 0 tc, .int .i64 0, .int .i64 0, .slice (some ⟨b, off, none⟩) 2 dc] 25)).cell? ⟨w.heap.size, 0, none⟩ = some (.int .i64 kd) ∧ True ∧ True ∧ True ∧ (w.alloc (.cells #[.int .i64 kd, .slice tA 0 tc, .int .i64 0, .int .i64 0, .slice (some ⟨b, off, none⟩) 2 dc] 25)).cell? ⟨w.heap.size, 4, none⟩ = some (.slice (some ⟨b, off, none⟩) 2 dc) := ⟨by simp, trivial, trivial, trivial, by simp⟩
  clear hbx HCa HCd hbk y1 y2 y3
  rcases hkd with rfl | rfl
  all_goals
    go_enter Tryz.func14, Tryz.ntmps14
    go_upto_region 9 with (fail)
    generalize hw1 : w.alloc (.cells #[.int .i64 _, .slice tA 0 tc, .int .i64 0, .int .i64 0, .slice (some ⟨b, off, none⟩) 2 dc] 25) = w1 at *
    have hbs := bel_some w1
    have g0 := fun p : Bel w1 => bel_cell (a := ⟨b, off, none⟩) hb1 q0 p
    have g1 := fun p : Bel w1 => bel_cell (a := ⟨b, off + 1, none⟩) hb1 q1 p
    have g2 := fun p : Bel w1 => bel_cell (a := ⟨b, off + 2, none⟩) hb1 q2 p
    have g3 := fun p : Bel w1 => bel_cell (a := ⟨b, off + 3, none⟩) hb1 q3 p
    have g4 := fun p : Bel w1 => bel_cell (a := ⟨b, off + 4, none⟩) hb1 q4 p
    have e0 := fun p : Bel w1 => bel_cell (a := ⟨b, off + 5, none⟩) hb1 r0 p
    have e1 := fun p : Bel w1 => bel_cell (a := ⟨b, off + 5 + 1, none⟩) hb1 r1 p
    have e2 := fun p : Bel w1 => bel_cell (a := ⟨b, off + 5 + 2, none⟩) hb1 r2 p
    have e3 := fun p : Bel w1 => bel_cell (a := ⟨b, off + 5 + 3, none⟩) hb1 r3 p
    have e4 := fun p : Bel w1 => bel_cell (a := ⟨b, off + 5 + 4, none⟩) hb1 r4 p
    have z4 := fun p : Bel w1 => bel_cell (a := ⟨w.heap.size, 4, none⟩) hsz1 y4 p
    clear hw1
    refine wp_region_bel w1 (by kernel_rfl) (by kernel_rfl) ((Below.refl _ _).drew) ?_
    repeat (quiet_step ((go_at_call 14; first | with_reducible exact bel_call HC1.out _ | with_reducible exact bel_call HC2.out _)))
    refine wpQuiet_nil ?_
    intro w6 hw'
    obtain ⟨p6, hp6⟩ := hw'
    have hb6 : Below w1.heap.size w1 w6 := by rw [hp6]; exact p6.h
    have HB6 := Lib.hid (HBx.out.trans (hb6.mono HBx.out.size))
    clear hp6 p6 hb6 g0 g1 g2 g3 g4 e0 e1 e2 e3 e4 z4
    rcases htr with rfl | rfl | rfl
    all_goals
      rcases htr2 with rfl | rfl | rfl
      all_goals
        have HT := Lib.hid HR.out
        clear HR
        go_wp2_with fail
        go_ret
        exact ⟨by rw [HT.out]; rfl, HB6.out⟩
end Go.Proofs.YtonmpealebggoaaGreatDoor
namespace Go.Proofs.YtonmpealebggoaaGreatDoor
open Go.RowKit Pr
theorem truth_all : ∀ f, TrAt f
  | 0 => fun _ _ _ _ _ _ _ hc => hc.elim
  | f + 1 => fun c l v fv P Q w hc hv hf ho => by
    have HI := truth_all f
    rcases hc with ⟨h0, hc⟩ | ⟨h1, a, e, ha⟩ | ⟨h2, a, d, e, ha, hd⟩
    · exact truth_cmp f c l v fv P Q w h0 hc hv hf ho
    · rw [e] at hv ⊢
      exact truth_not f HI a l v fv P Q w ha hv hf ho
    · rw [e] at hv ⊢
      exact truth_two f HI c.kind h2 a d l v fv P Q w ha hd hv hf ho
/-- The fact before number i. -/
def prevF (l : List Ft) (i : Nat) : Option Ft := if i = 0 then none else some (l.getD (i - 1) ft0)
set_option maxRecDepth 100000 in
set_option maxHeartbeats 8000000 in
theorem facts_any (l : List Ft) (v : Value) (P : Nat → Prop) (w : World) (h : FtsM P w v l) :
    Calls Tryz.prog 13 #[v] w fun e w' => e = .returned (.int .i64 (factsE l)) ∧ Below w.heap.size w w' := by
  obtain ⟨A, cap, rfl⟩ := h.1.form
  have HE : Hid (factsE l = if 64 < l.length then 2 else factsF none l) := rfl
  generalize factsE l = E at *
  have HM := Lib.hid h
  have hz := h.2
  have HZ := Lib.hid hz
  clear h hz
  generalize hn : l.length = n at *
  have HN := Lib.hid hn
  clear hn
  go_enter Tryz.func13, Tryz.ntmps13
  by_cases c1 : 64 < n
  · have t1 : decide ((n : Int) > 64) = true := by simp; omega
    have HR := Lib.hid (show E = 2 by rw [HE.out, if_pos c1])
    go_wp2_with fail
    go_ret
    exact ⟨by rw [HR.out]; rfl, Below.refl _ _⟩
  have t1 : decide ((n : Int) > 64) = false := by simp; omega
  have HE2 := Lib.hid (show E = factsF none l by rw [HE.out, if_neg c1])
  clear HE
  go_wp2_with fail
  go_loopw [3, 4, 10, 15, 20, 29] (fun _ _ v10 _ _ _ wr => ∃ i : Nat, i ≤ n ∧ v10 = .int .i64 i ∧ E = factsF (prevF l i) (l.drop i) ∧ Below w.heap.size w wr) (fun _ _ v10 _ _ _ _ => n - (intOf v10).toNat)
  case atStart => exact ⟨0, Nat.zero_le _, rfl, HE2.out, Below.refl _ _⟩
  case round =>
    obtain ⟨i, hi, rfl, he, hb⟩ := hrel
    have HE3 := Lib.hid he
    have HB := Lib.hid hb
    clear he HE2
    by_cases hlt : i < n
    · have t0 : decide ((i : Int) < (n : Int)) = true := by simp; omega
      obtain ⟨b, off, rfl, -, hbl, hcl⟩ := FtsM.at_ (l := l) (n := n) HM.out (by rw [HN.out]; omega)
      obtain ⟨q0, q1⟩ := hcl i (by rw [HN.out]; exact hlt)
      have q0 : wr.cell? ⟨b, off + i * 2, none⟩ = some (.string (Bs (l.getD i ft0).1)) := (hb.cell (p := ⟨b, off + i * 2, none⟩) hbl).trans q0
      replace q1 := (hb.cell (p := ⟨b, off + i * 2 + 1, none⟩) hbl).trans q1
      have hp0 : Hid (0 < i → w.cell? ⟨b, off + (i - 1) * 2, none⟩ = some (.string (Bs (l.getD (i - 1) ft0).1))) := fun h0 => (hcl (i - 1) (by rw [HN.out]; omega)).1
      have hbl2 := Nat.lt_of_lt_of_le hbl hb.size
      have hzi : (l.getD i ft0).1.length ≤ 9223372036854775807 := HZ.out _ (by rw [List.getD_eq_getElem?_getD, List.getElem?_eq_getElem (by rw [HN.out]; exact hlt)]; exact List.getElem_mem _)
      have HPl := Lib.hid (fun W => (show Calls Tryz.prog 29 #[.string (Bs (l.getD i ft0).1)] W fun e w' => e = .returned (.bool (plainB (l.getD i ft0).1)) ∧ Below W.heap.size W w' by have := plain_any (Bs (l.getD i ft0).1) W (by show (l.getD i ft0).1.toArray.size ≤ _; simpa using hzi); simpa using this))
      have HS : Hid (E = if factE (prevF l i) (l.getD i ft0) ≠ 0 then factE (prevF l i) (l.getD i ft0) else factsF (prevF l (i + 1)) (l.drop (i + 1))) := by
        unfold Hid
        rw [HE3.out]
        have h1 : l.drop i = l.getD i ft0 :: l.drop (i + 1) := by rw [List.drop_eq_getElem_cons (by rw [HN.out]; exact hlt), List.getD_eq_getElem?_getD, List.getElem?_eq_getElem (by rw [HN.out]; exact hlt)]; rfl
        rw [h1]
        show (if factE (prevF l i) (l.getD i ft0) ≠ 0 then _ else factsF (some (l.getD i ft0)) (l.drop (i + 1))) = _
        have h2 : prevF l (i + 1) = some (l.getD i ft0) := by unfold prevF; rw [if_neg (by omega)]; rfl
        rw [h2]
      clear hcl hzi HE3
      generalize hx : l.getD i ft0 = x at *
      obtain ⟨nm, vl⟩ := x
      dsimp only at q0 q1 HPl
      have HBn := Lib.hid ((Below.refl wr.heap.size wr).alloc (Nat.le_refl _) (.cells #[.string (Bs nm), .int .i64 vl] 30))
      have hbt := Blk.new wr 30 #[.string (Bs nm), .int .i64 vl]
      have HBt := Lib.hid hbt
      clear hbt hx
      have HFe : Hid (factE (prevF l i) (nm, vl) = if plainB nm = false then 6 else if vl < -2147483648 ∨ 2147483648 < vl then 3 else match prevF l i with
        | some y => if ltB y.1 nm = true then 0 else 18
        | none => 0) := rfl
      generalize hpb : plainB nm = pb at *
      clear hpb
      cases pb with
      | false =>
        have HR := Lib.hid (show E = 6 by rw [HS.out, HFe.out]; rfl)
        go_wp2_with (go_at_call 29; refine (HPl.out _).mono ?_; rintro e w5 ⟨rfl, hb5⟩)
        go_ret
        exact ⟨by rw [HR.out]; rfl, HB.out.trans ((HBn.out.trans (hb5.mono HBn.out.size)).mono HB.out.size)⟩
      | true =>
        generalize hNM : Bs nm = NM at *
        have HNM := Lib.hid hNM
        clear hNM
        go_wp2_with fail
        refine (HPl.out _).mono ?_
        rintro e w5 ⟨rfl, hb5⟩
        have HB5w := Lib.hid (HBn.out.trans (hb5.mono HBn.out.size))
        have HB5 := Lib.hid (HB.out.trans (HB5w.out.mono HB.out.size))
        obtain ⟨z0, z1, -, -, zl⟩ := two_cells (HBt.out.below hb5 HBt.out.lt)
        have q0' := (HB5w.out.cell (p := ⟨b, off + i * 2, none⟩) hbl2).trans q0
        clear hb5 q0 q1
        by_cases d1 : vl < -2147483648
        · have u1 : decide (vl < -2147483648) = true := by simp; omega
          have HR := Lib.hid (show E = 3 by
            have e : factE (prevF l i) (nm, vl) = 3 := by rw [HFe.out, if_neg (by simp), if_pos (.inl d1)]
            rw [HS.out, e]; rfl)
          go_wp2_with fail
          go_ret
          exact ⟨by rw [HR.out]; rfl, HB5.out⟩
        have u1 : decide (vl < -2147483648) = false := by simp; omega
        by_cases d2 : 2147483648 < vl
        · have u2 : decide (vl > 2147483648) = true := by simp; omega
          have HR := Lib.hid (show E = 3 by
            have e : factE (prevF l i) (nm, vl) = 3 := by rw [HFe.out, if_neg (by simp), if_pos (.inr d2)]
            rw [HS.out, e]; rfl)
          go_wp2_with fail
          go_ret
          exact ⟨by rw [HR.out]; rfl, HB5.out⟩
        have u2 : decide (vl > 2147483648) = false := by simp; omega
        have HFe2 := Lib.hid (show factE (prevF l i) (nm, vl) = match prevF l i with
          | some y => if ltB y.1 nm = true then 0 else 18
          | none => 0 by rw [HFe.out, if_neg (by simp), if_neg (by omega)])
        clear HFe d1 d2
        by_cases hi0 : i = 0
        · subst hi0
          have HG := Lib.hid (show E = factsF (prevF l (0 + 1)) (l.drop (0 + 1)) by rw [HS.out, HFe2.out]; rfl)
          go_wp2_with fail
          go_quiet (fail)
          go_wp2_with fail
          go_roundw
          case rel => exact ⟨0 + 1, by omega, by go_num, HG.out, HB5.out.os, HB5.out.tape, HB5.out.output, HB5.out.size, HB5.out.block⟩
          case measure => simp [intOf]; omega
        · have u3 : decide ((i : Int) > 0) = true := by simp; omega
          have p0 := (HB5.out.cell (p := ⟨b, off + (i - 1) * 2, none⟩) hbl).trans (hp0.out (by omega))
          have hpv : prevF l i = some (l.getD (i - 1) ft0) := by unfold prevF; rw [if_neg hi0]
          have HLs : Hid (Op.bytesLess (Bs (l.getD (i - 1) ft0).1).toList NM.toList = ltB (l.getD (i - 1) ft0).1 nm) := by
            unfold Hid
            rw [← HNM.out, Lib.toList_data, Lib.toList_data]
            simpa using less_ltB (l.getD (i - 1) ft0).1 nm
          have HFe3 := Lib.hid (show factE (prevF l i) (nm, vl) = if ltB (l.getD (i - 1) ft0).1 nm = true then 0 else 18 by rw [HFe2.out, hpv])
          obtain ⟨k, rfl⟩ : ∃ k, i = k + 1 := ⟨i - 1, by omega⟩
          have hk1 : k + 1 - 1 = k := rfl
          rw [hk1] at p0 HLs HFe3
          have e1 : ((k + 1 : Nat) : Int) - 1 = (k : Int) := by omega
          generalize ltB (l.getD k ft0).1 nm = lb at *
          generalize Bs (l.getD k ft0).1 = YM at *
          have u4 := HLs.out
          clear hpv hp0 hk1
          cases lb with
          | true =>
            have HG := Lib.hid (show E = factsF (prevF l (k + 1 + 1)) (l.drop (k + 1 + 1)) by rw [HS.out, HFe3.out]; rfl)
            go_wp2_with fail
            go_quiet (fail)
            go_wp2_with fail
            go_roundw
            case rel => exact ⟨k + 1 + 1, by omega, by go_num, HG.out, HB5.out.os, HB5.out.tape, HB5.out.output, HB5.out.size, HB5.out.block⟩
            case measure => simp [intOf]; omega
          | false =>
            have HR := Lib.hid (show E = 18 by rw [HS.out, HFe3.out]; rfl)
            go_wp2_with fail
            go_quiet (fail)
            go_wp2_with fail
            go_ret
            exact ⟨by rw [HR.out]; rfl, HB5.out.os, HB5.out.tape, HB5.out.output, HB5.out.size, HB5.out.block⟩
    · have t0 : decide ((i : Int) < (n : Int)) = false := by simp; omega
      obtain rfl : i = n := by omega
      have HR := Lib.hid (show E = 0 by rw [HE3.out, ← HN.out, List.drop_length]; rfl)
      go_wp2_with fail
      go_ret
      exact ⟨by rw [HR.out]; rfl, HB.out⟩
end Go.Proofs.YtonmpealebggoaaGreatDoor
