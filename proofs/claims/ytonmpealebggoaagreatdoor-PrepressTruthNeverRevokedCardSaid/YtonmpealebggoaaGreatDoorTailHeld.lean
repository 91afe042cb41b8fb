/- A region that draws its order, whose loads are taken first under a condition S that holds until the stores at its end begin. No program is in sight here. -/
import Derived.StillTail
import Derived.Deep.RegionHeld
namespace Go.Proofs.YtonmpealebggoaaGreatDoor
open Go
section
variable {P : Program} {l : List Oper} {Q : Exit → Act → World → Prop} {md : Region.Mode} {S : World → Prop} {n : Nat}
/-- The condition S holds behind each of the first n operations, in whatever order they come; then the rest goes in the order of the text. -/
def wpAnyD (P : Program) (md : Region.Mode) (l : List Oper) (Q : Exit → Act → World → Prop) (S : World → Prop) (n : Nat) : Nat → Array Bool → Act → World → Prop
  | 0, listed, a, w => Region.seqB md l.toArray (l.length - n) n listed = true ∧ wpList P l.toArray Q (l.drop n) a w
  | f + 1, listed, a, w => Region.ready md l.toArray listed ≠ [] ∧ ∀ i ∈ Region.ready md l.toArray listed, i < n ∧ wpOp P l.toArray Q i (fun a' w' => S w' ∧ wpAnyD P md l Q S n f (listed.setIfInBounds i true) a' w') a w
theorem wpAny_of_D (hn : n ≤ l.length) : ∀ (f : Nat) (listed : Array Bool) (a : Act) (w : World), wpAnyD P md l Q S n f listed a w → wpAny P md l.toArray Q (f + (l.length - n)) listed a w
  | 0, listed, a, w, h => by
    rw [Nat.zero_add]
    have h2 := wpAny_of_seq (md := md) (Q' := Q) (l.drop n) n listed a w (fun j => by simp [List.getElem?_drop]) (by rw [List.length_drop]; exact h.1) h.2
    rwa [List.length_drop] at h2
  | f + 1, listed, a, w, h => by
    rw [show f + 1 + (l.length - n) = (f + (l.length - n)) + 1 by omega]
    exact ⟨fun h0 => absurd h0 h.1, fun i hi => wpOp_mono (fun a' w' h' => wpAny_of_D hn f _ a' w' h'.2) (h.2 i hi).2⟩
theorem wpAnyD_first {i : Nat} {oi : Oper} {v : Value} (hi : l.toArray[i]? = some oi) (hsel : ∀ (j : Nat) (o : Oper) cs b, l.toArray[j]? = some o → o.op ≠ .select cs b)
    (hs : Region.sinkB md l.toArray n = true) (hc : Region.chainB md l.toArray n = true) (hn : n < l.toArray.size) (hin : i < n)
    (hQ : ∀ c a w, Q (.panic c) (a.put oi.dst v) w → Q (.panic c) a w) :
    ∀ (f : Nat) (listed : Array Bool) (a : Act) (w : World), HeadInv md l.toArray n listed →
      (∀ j oj, l.toArray[j]? = some oj → j ≠ i → listed.getD j true = false → (∀ e ∈ oj.after, Region.binds md e = true → e.on ≠ i) → oi.apart l.toArray oj = true) →
      i ∈ Region.ready md l.toArray listed → YieldsIf P l.toArray S oi v a → S w →
      wpAnyD P md l Q S n f (listed.setIfInBounds i true) (a.put oi.dst v) w → wpAnyD P md l Q S n (f + 1) listed a w := by
  intro f
  induction f with
  | zero =>
    intro listed a w inv _ hr hy hS H
    have hun := (mem_ready.1 hr).1
    refine ⟨fun h => (by rw [h] at hr; cases hr), fun j hj => ?_⟩
    have hjn : j < n := by
      rcases Nat.lt_or_ge j n with h | h
      · exact h
      · exact absurd hj (tail_waits hs hc hn inv _ i rfl hin hun j h)
    refine ⟨hjn, ?_⟩
    by_cases hji : j = i
    · subst hji; exact hy.wpOp hi hS ⟨hS, H⟩
    · have := seqB_ready H.1 j (ready_mono hj hji)
      omega
  | succ f ih =>
    intro listed a w inv hfree hr hy hS H
    have hun := (mem_ready.1 hr).1
    refine ⟨fun h => (by rw [h] at hr; cases hr), fun j hj => ?_⟩
    have hjn : j < n := by
      rcases Nat.lt_or_ge j n with h | h
      · exact h
      · exact absurd hj (tail_waits hs hc hn inv _ i rfl hin hun j h)
    refine ⟨hjn, ?_⟩
    by_cases hji : j = i
    · subst hji; exact hy.wpOp hi hS ⟨hS, H⟩
    · have h1 := (H.2 j (ready_mono hj hji)).2
      obtain ⟨hjun, oj, hoj, hall⟩ := mem_ready.1 hj
      have hnot : ∀ e ∈ oj.after, Region.binds md e = true → e.on ≠ i := fun e he hb heq => by
        have h1 := hall e he hb
        rw [heq, getD_both hun] at h1
        cases h1
      have h2 := wpOp_putIf hoj (hfree j oj hoj hji hjun hnot) (fun cs b => hsel i oi cs b hi) (fun cs b => hsel j oj cs b hoj) hQ hy h1
      have hfree' : ∀ k ok, l.toArray[k]? = some ok → k ≠ i → (listed.setIfInBounds j true).getD k true = false →
          (∀ e ∈ ok.after, Region.binds md e = true → e.on ≠ i) → oi.apart l.toArray ok = true := fun k ok hk hki hun hno => by
        refine hfree k ok hk hki ?_ hno
        by_cases hjk : j = k
        · subst hjk; exact hjun
        · rw [getD_set_ne true hjk] at hun; exact hun
      refine wpOp_mono (fun a' w' h3 => ⟨h3.2.1, ih (listed.setIfInBounds j true) a' w' (inv.set hj hjn) hfree' (ready_mono hr (Ne.symm hji)) h3.1 h3.2.1 ?_⟩) h2
      rw [Array.setIfInBounds_comm _ _ hji]
      exact h3.2.2
/-- What HeadInv says, as a test. -/
def headB (md : Region.Mode) (ops : Array Oper) (n : Nat) (listed : Array Bool) : Bool :=
  decide (listed.size = ops.size) && ((List.range ops.size).all fun j => !listed.getD j false || (match ops[j]? with | some oj => oj.after.all fun e => !Region.binds md e || listed.getD e.on false | none => true)) && ((List.range ops.size).all fun t => decide (t < n) || !listed.getD t true)
theorem headB_spec {ops : Array Oper} {listed : Array Bool} (h : headB md ops n listed = true) : HeadInv md ops n listed := by
  unfold headB at h
  simp only [Bool.and_eq_true, decide_eq_true_eq] at h
  obtain ⟨⟨h1, h2⟩, h3⟩ := h
  refine ⟨h1, fun j oj hj hl e he hb => ?_, fun t ht ht2 => ?_⟩
  · have hlt := (Array.getElem?_eq_some_iff.1 hj).1
    have := List.all_eq_true.1 h2 j (List.mem_range.2 hlt)
    rw [hl, hj] at this
    simp only [Bool.not_true, Bool.false_or] at this
    have h4 := Array.all_eq_true'.1 this e he
    rw [hb] at h4
    simpa using h4
  · have := List.all_eq_true.1 h3 t (List.mem_range.2 ht2)
    rw [decide_eq_false (by omega)] at this
    simpa using this
/-- The checks of a region with n operations ahead of its stores. -/
def tailB (md : Region.Mode) (l : List Oper) (n : Nat) : Bool := Region.noSelect l.toArray && decide (n < l.length) && Region.sinkB md l.toArray n && Region.chainB md l.toArray n
theorem drop_get {i : Nat} {oi : Oper} {tl : List Oper} (h : l.drop i = oi :: tl) : l.toArray[i]? = some oi := by
  have := congrArg (fun x : List Oper => x[0]?) h
  simpa [List.getElem?_drop] using this
/-- Take number i first. -/
theorem wpAnyD_take (i : Nat) {oi : Oper} {tl : List Oper} {v : Value} {f : Nat} {listed : Array Bool} {a : Act} {w : World} (hi : l.drop i = oi :: tl) (hB : tailB md l n = true) (hI : headB md l.toArray n listed = true)
    (hf : (decide (i < n) && Region.free md l.toArray listed i && (Region.ready md l.toArray listed).contains i) = true)
    (hQ : ∀ c a w, Q (.panic c) (a.put oi.dst v) w → Q (.panic c) a w) (hS : S w) (hy : YieldsIf P l.toArray S oi v a)
    (h : wpAnyD P md l Q S n f (listed.setIfInBounds i true) (a.put oi.dst v) w) : wpAnyD P md l Q S n (f + 1) listed a w := by
  unfold tailB at hB
  simp only [Bool.and_eq_true, decide_eq_true_eq] at hB hf
  obtain ⟨⟨⟨h1, h2⟩, h3⟩, h4⟩ := hB
  obtain ⟨⟨h5, h6⟩, h7⟩ := hf
  exact wpAnyD_first (drop_get hi) (Region.noSelect_spec h1) h3 h4 (by simpa using h2) h5 hQ f listed a w (headB_spec hI) (Region.free_spec (drop_get hi) h6) (by simpa using h7) hy hS h
/-- Each of the operations rs comes up next. -/
def AllReadyD (P : Program) (md : Region.Mode) (l : List Oper) (Q : Exit → Act → World → Prop) (S : World → Prop) (n f : Nat) (listed : Array Bool) (a : Act) (w : World) (rs : List Nat) : Prop :=
  ∀ i ∈ rs, wpOp P l.toArray Q i (fun a' w' => S w' ∧ wpAnyD P md l Q S n f (listed.setIfInBounds i true) a' w') a w
theorem AllReadyD.nil {f : Nat} {listed : Array Bool} {a : Act} {w : World} : AllReadyD P md l Q S n f listed a w [] := fun _ h => by cases h
theorem AllReadyD.cons {f : Nat} {listed : Array Bool} {a : Act} {w : World} {i : Nat} {o : Oper} {tl : List Oper} {rs : List Nat} (ho : l.drop i = o :: tl)
    (h : ∀ K' : Act → World → Prop, Shut (∀ a w, S w → (S w → wpAnyD P md l Q S n f (listed.setIfInBounds i true) a w) → K' a w) → if Region.wanted o (yielded l.toArray a.tmps) = true then Oper.wp P o a w K' Q else K' (a.put o.dst undef) w)
    (hs : AllReadyD P md l Q S n f listed a w rs) : AllReadyD P md l Q S n f listed a w (i :: rs) := fun j hj => by
  rcases List.mem_cons.1 hj with rfl | hj
  · exact wpOp_step (drop_get ho) (fun K' hK => h K' (fun a w hS hW => hK a w ⟨hS, hW hS⟩))
  · exact hs j hj
theorem wpAnyD_ready (rs : List Nat) {f : Nat} {listed : Array Bool} {a : Act} {w : World} (hr : (decide (Region.ready md l.toArray listed = rs) && decide (rs ≠ []) && rs.all fun i => decide (i < n)) = true)
    (h : AllReadyD P md l Q S n f listed a w rs) : wpAnyD P md l Q S n (f + 1) listed a w := by
  simp only [Bool.and_eq_true, decide_eq_true_eq] at hr
  obtain ⟨⟨h1, h2⟩, h3⟩ := hr
  exact ⟨by rw [h1]; exact h2, fun i hi => by rw [h1] at hi; exact ⟨of_decide_eq_true (List.all_eq_true.1 h3 i hi), h i hi⟩⟩
theorem wpAnyD_done {listed : Array Bool} {a : Act} {w : World} (hr : Region.seqB md l.toArray (l.length - n) n listed = true) (h : wpList P l.toArray Q (l.drop n) a w) : wpAnyD P md l Q S n 0 listed a w := ⟨hr, h⟩
/-- The beginning. -/
theorem wp_region_tail {id : Nat} {a : Act} {w : World} (S : World → Prop) (n : Nat) (hm : P.follows .mixedOrders = true) (hB : tailB .any l n = true) (hS : S w.drew)
    (h : S w.drew → wpAnyD P .any l Q S n n (Array.replicate l.length false) a w.drew) : (Code.region id l.toArray true).wp P Q a w := by
  unfold tailB at hB
  simp only [Bool.and_eq_true, decide_eq_true_eq] at hB
  have hn := hB.1.1.2
  refine wp_region_any hm ?_
  have := wpAny_of_D (by omega) _ _ _ _ (h hS)
  rw [show n + (l.length - n) = l.toArray.size by simp; omega] at this
  simpa using this
end
end Go.Proofs.YtonmpealebggoaaGreatDoor
