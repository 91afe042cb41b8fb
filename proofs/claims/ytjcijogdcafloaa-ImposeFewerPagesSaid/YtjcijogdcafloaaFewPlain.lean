/- With fewer pages, the plate is that with empty pages at the end: plain law. No program is in sight here. -/
import Derived.Test.YtjcijogdcafloaaPlatePlain
namespace Go.Proofs.Ytjcijogdcafloaa
namespace Lay
variable (L : Lay)
/-- The places of pages of one side: the first k pages; the d pages behind the first m. -/
def fam (g : Pg → Bool) (ps : List Pg) (k : Nat) : List Pla := (List.range k).flatMap fun i => if g (ps.getD i ⟨false, 0, 0, 0⟩) then [L.plc i (ps.getD i ⟨false, 0, 0, 0⟩)] else []
def famR (g : Pg → Bool) (ps : List Pg) (m d : Nat) : List Pla := (List.range d).flatMap fun i => if g (ps.getD (m + i) ⟨false, 0, 0, 0⟩) then [L.plc (m + i) (ps.getD (m + i) ⟨false, 0, 0, 0⟩)] else []
theorem fam_split (g : Pg → Bool) (ps : List Pg) (m d : Nat) : L.fam g ps (m + d) = L.fam g ps m ++ L.famR g ps m d := by
  unfold fam famR
  rw [List.range_add, List.flatMap_append, List.flatMap_map]
theorem plc_page (i : Nat) (p : Pg) : (L.plc i p).page = (i : Int) + 1 := by unfold Lay.plc; split <;> (try split) <;> rfl
theorem fam_mem {g : Pg → Bool} {ps : List Pg} {k : Nat} {q : Pla} (h : q ∈ L.fam g ps k) : ∃ i, i < k ∧ q = L.plc i (ps.getD i ⟨false, 0, 0, 0⟩) := by
  obtain ⟨i, hi, hx⟩ := List.mem_flatMap.1 h
  refine ⟨i, List.mem_range.1 hi, ?_⟩
  split at hx
  · simpa using hx
  · cases hx
theorem famR_mem {g : Pg → Bool} {ps : List Pg} {m d : Nat} {q : Pla} (h : q ∈ L.famR g ps m d) : ∃ i, i < d ∧ q = L.plc (m + i) (ps.getD (m + i) ⟨false, 0, 0, 0⟩) := by
  obtain ⟨i, hi, hx⟩ := List.mem_flatMap.1 h
  refine ⟨i, List.mem_range.1 hi, ?_⟩
  split at hx
  · simpa using hx
  · cases hx
theorem fam_pages {g : Pg → Bool} {ps : List Pg} {k : Nat} {q : Pla} (h : q ∈ L.fam g ps k) : 1 ≤ q.page ∧ q.page ≤ k := by
  obtain ⟨i, hi, rfl⟩ := L.fam_mem h
  rw [plc_page]; omega
theorem famR_pages {g : Pg → Bool} {ps : List Pg} {m d : Nat} {q : Pla} (h : q ∈ L.famR g ps m d) : (m : Int) < q.page ∧ q.page ≤ m + d := by
  obtain ⟨i, hi, rfl⟩ := L.famR_mem h
  rw [plc_page]; omega
end Lay
/-- A pixel of a mark is in no page. -/
theorem has_apart {L : Lay} (ok : L.Ok) {m : Mk} (hm : L.MkIn m) {i : Nat} (hi : i < 2 * (L.C * L.R)) {p : Pg} (hc : p.col < L.C) (hr : p.row < L.R) (ht : p.turn < 4) (hp : (p.turn % 2 == 1) = L.odd) {PW a : Nat} (h : L.hasP PW (L.plc i p) a) : m.has PW a = false := by
  have h1 := mark_apart ok hm hi hc hr ht hp
  unfold Lay.hasP at h
  unfold Mk.has
  apply decide_eq_false
  generalize a % PW = u at *
  generalize a / PW = v at *
  intro h2
  apply h1
  refine ⟨?_, ?_, ?_, ?_⟩ <;> omega
theorem bw_pos {L : Lay} (ok : L.Ok) (t : Int) : 0 ≤ L.bw t ∧ 0 ≤ L.bh t := by
  have := ok.w1; have := ok.h1
  unfold Lay.bw Lay.bh; split <;> omega
/-- The plate of the first m pages is that of all pages, the others empty. -/
theorem few_plate {L : Lay} (ok : L.Ok) {ps : List Pg} (hps : L.Pages ps) (g : Pg → Bool) (hg : ∀ p q, L.style = 0 → g p = true → g q = true → p.back = q.back) {ms : List Mk} (hms : ∀ x ∈ ms, L.MkIn x) {PW PH m d : Nat} (hmd : m + d ≤ ps.length)
    {few all : List (List UInt8)} (h1 : ∀ i, i < m → pcN few i = pcN all i) (h2 : ∀ i, i < d → pcN all (m + i) = List.replicate (L.W.toNat * L.H.toNat) 0) :
    L.pgs PW PH few (imgM PW PH ms) (L.fam g ps m) = L.pgs PW PH all (imgM PW PH ms) (L.fam g ps (m + d)) := by
  have hlen := hps.len
  rw [L.fam_split, pgs_append]
  have e1 : L.pgs PW PH few (imgM PW PH ms) (L.fam g ps m) = L.pgs PW PH all (imgM PW PH ms) (L.fam g ps m) := pgs_congr L PW PH _ fun p hp => by
    obtain ⟨a, b⟩ := L.fam_pages hp
    exact h1 _ (by omega)
  rw [e1]
  symm
  have hil : (imgM PW PH ms).length = PW * PH := by unfold imgM; exact imgP_length _ _
  have hin : ∀ i, i < ps.length → (ps.getD i ⟨false, 0, 0, 0⟩).col < L.C ∧ (ps.getD i ⟨false, 0, 0, 0⟩).row < L.R ∧ (ps.getD i ⟨false, 0, 0, 0⟩).turn < 4 ∧ (((ps.getD i ⟨false, 0, 0, 0⟩).turn % 2 == 1) = L.odd) := fun i hi =>
    hps.inn _ (by rw [List.getD_eq_getElem?_getD, List.getElem?_eq_getElem hi]; exact List.getElem_mem _)
  refine pgs_zero (bw_pos ok) (pgs_length L PW PH all _ hil _) (fun p hp => ?_) fun p hp a ha hpa => ?_
  · obtain ⟨x, y⟩ := L.famR_pages hp
    have := h2 (p.page - 1 - m).toNat (by omega)
    rw [← this]; congr 1; omega
  · obtain ⟨i, hi, rfl⟩ := L.famR_mem hp
    obtain ⟨c1, c2, c3, c4⟩ := hin (m + i) (by omega)
    rw [pgs_other (bw_pos ok) all _ ha fun q hq => ?_]
    · unfold imgM
      rw [imgP_get _ ha, if_neg]
      unfold hasM
      rw [Bool.not_eq_true, List.any_eq_false]
      intro x hx
      rw [has_apart ok (hms x hx) (by omega) c1 c2 c3 c4 hpa]
      exact Bool.false_ne_true
    · intro hqa
      have hpo := (pl_ok ok hps g hg (k := m + d) hmd).2
      have hsp := L.fam_split g ps m d
      unfold Lay.fam at hsp
      rw [hsp] at hpo
      obtain ⟨a1, ha1⟩ := List.getElem?_of_mem hq
      obtain ⟨b1, hb1⟩ := List.getElem?_of_mem hp
      have hal : a1 < (L.fam g ps m).length := (List.getElem?_eq_some_iff.1 ha1).1
      unfold Lay.fam at ha1 hal
      have := (hpo a1 (((List.range m).flatMap fun i => if g (ps.getD i ⟨false, 0, 0, 0⟩) then [L.plc i (ps.getD i ⟨false, 0, 0, 0⟩)] else []).length + b1) q (L.plc (m + i) (ps.getD (m + i) ⟨false, 0, 0, 0⟩)) (by omega) (by rw [List.getElem?_append_left hal]; exact ha1) (by rw [List.getElem?_append_right (by omega), Nat.add_sub_cancel_left]; exact hb1)).2
      unfold Apart at this
      unfold Lay.hasP at hqa hpa
      generalize a % PW = u at *
      generalize a / PW = v at *
      omega
end Go.Proofs.Ytjcijogdcafloaa
