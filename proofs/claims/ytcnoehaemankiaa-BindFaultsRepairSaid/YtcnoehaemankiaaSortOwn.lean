/- The library's sort and clone, told in the words of rows of the call's own. -/
import Derived.Test.YtcnoehaemankiaaSortLaid
import Derived.Test.YtcnoehaemankiaaLongest
import Derived.Sort.OwnSortedInts
namespace Go.Proofs.Ytcnoehaemankiaa
open Go.RowKit Go.Sort
def SortPost (base : Nat) (v : Value) (n : Nat) (ts : List Int) (w : World) (e : Ending) (w' : World) : Prop :=
  e = .returned (.tuple #[]) ∧ w'.ownsRow base 3 1 v n (ints ts) ∧ w.grownBy w' v.ownBlock
theorem sort_own (base : Nat) (v : Value) (zs : List Int) (n : Nat) (w : World) (h : w.ownsRow base 3 1 v n (ints zs)) (h0 : 0 < n) (hn : n ≤ 1000000) :
    Calls Try.prog 17 #[v] w (SortPost base v n (zs.mergeSort fun x y => decide (x ≤ y)) w) := by
  have hl : zs.length = n := by have := h.1; rw [ints_length] at this; omega
  subst hl
  rcases h.2 with ⟨_, h1⟩ | ⟨g, cap, cur, rfl, hbase, hb, h1, h2, h3, h4⟩
  · omega
  · have hH : Holds (Value.int .i64) w g 0 zs.toArray := holds_of_blockI hb (by rw [Nat.mul_one] at h4; exact h4)
    have hlt : g < w.heap.size := (Array.getElem?_eq_some_iff.1 hb).1
    refine (slices_Sort_int g 0 cap zs w hH hlt (by omega)).mono ?_
    rintro e w' ⟨rfl, nn, os, rfl⟩
    refine ⟨rfl, ?_, ?_⟩
    · exact ownsRow_sortedI (ss := zs) (List.length_mergeSort zs) hbase hb h1 h2 h3
    · exact grownBy_sortedI _
/-- A copy of the call's own. -/
def ClonePost (n : Nat) (zs : List Int) (w : World) (e : Ending) (w' : World) : Prop := ∃ v, e = .returned v ∧ w'.ownsRow w.heap.size 3 1 v n (ints zs) ∧ Below w.heap.size w w'
theorem clone_own (v : Value) (zs : List Int) (w : World) (ok : Nat → Prop) (h : Sl w ok v (ints zs)) (hn : zs.length ≤ 1000000) :
    Calls Try.prog 16 #[v] w (ClonePost zs.length zs w) := by
  rcases Nat.eq_zero_or_pos zs.length with h0 | h0
  · have hz : zs = [] := List.eq_nil_of_length_eq_zero h0
    subst hz
    obtain ⟨A, cap, rfl⟩ := h.form
    rcases A with _ | a
    · exact (slices_Clone_int_nil _ _ w).mono fun e w' ⟨h1, h2⟩ => ⟨_, h1, ⟨rfl, .inl ⟨rfl, rfl⟩⟩, by rw [h2]; exact Below.refl _ _⟩
    · exact (slices_Clone_int_zero a _ w).mono fun e w' ⟨v', h1, h2, _, h3⟩ => ⟨v', h1, h2, h3⟩
  · obtain ⟨b, off, cap, rfl, _, hb, hc⟩ := h.plain (by rw [ints_length]; exact h0)
    rw [ints_length]
    refine (slices_Clone_int b off zs.length cap zs w (Nat.le_refl _) (by omega) (fun j hj => hc j _ (ints_get hj))).mono fun e w' ⟨v', h1, h2, _, h3⟩ => ⟨v', h1, ?_, h3⟩
    rw [List.take_of_length_le (Nat.le_refl _)] at h2
    exact h2
/-- append of a whole slice as a step of a region that draws its order. -/
theorem step_append_sl {P : Program} {w : World} {ops : Array Oper} {o : Oper} {a : Act} {K : Act → World → Prop} {Q : Exit → Act → World → Prop} {E : Prop} {t e : TypeId} {z : Value} {bytes : Nat} (T : ElemT P t e z bytes) (hgd : o.guard = none) (s x : Operand)
    (ho : o.op = .call { callee := .builtin .append, args := #[s, x], argTypes := #[t, t] })
    (base : Nat) (v : Value) (n : Nat) (xs : List Value) (hs : a.eval s = v) (hown : w.ownsRow base e 1 v n xs)
    (A : Option Addr) (m c : Nat) (news : List Value) (ok : Nat → Prop) (hx : a.eval x = .slice A m c) (hr : Sl w ok (.slice A m c) news) (h1 : ∀ u ∈ news, u.oneCell' = true) (hbytes : (n + m) * bytes ≤ 140737488355328) (hpos : 0 < bytes) (hbase : base ≤ w.heap.size)
    (h : ∀ v' w', w'.ownsRow base e 1 v' (n + m) (xs ++ news) → w.grownBy w' v.ownBlock → (v'.ownBlock = v.ownBlock ∨ v'.ownBlock = some w.heap.size) → K (a.put o.dst v') w') :
    if Region.wanted o (yielded ops a.tmps) = true then Oper.wp P o a w K Q else E := by
  have hw : Region.wanted o (yielded ops a.tmps) = true := by simp [Region.wanted, hgd]
  rw [if_pos hw]
  obtain ⟨i, h2, h3, h4, h5⟩ := T.hi
  have hlen : n + m ≤ maxLen := by
    have := Nat.le_mul_of_pos_right (n + m) hpos
    unfold maxLen; omega
  obtain ⟨A', cap', hv, hl1, hl2, hcell⟩ := hr
  injection hv with hA hm hc
  subst hA; subst hm; subst hc
  cases A with
  | none =>
    have h0 : news.length = 0 := by
      rcases Nat.eq_zero_or_pos news.length with h0 | h0
      · exact h0
      · obtain ⟨ad, h, _⟩ := hcell h0; cases h
    have hn : news = [] := List.eq_nil_of_length_eq_zero h0
    subst hn
    have hr := run_append_nil_src (P := P) w base t o.type e i 1 T.ht h2 v n xs hown c
    unfold Oper.wp execOp
    simp only [ho, resolve, invoke, builtin, Sem.run_bind, Sem.run_pure, Result.andThen_ok, List.map_toArray, List.map_cons, List.map_nil, hs, hx, List.length_nil, hr]
    exact h v w (by simpa using hown) (World.grownBy.refl w _) (.inl rfl)
  | some ad =>
    obtain ⟨v', w', hrun, a1, a2, _, a4⟩ := run_append_own_at (P := P) w base t o.type e i z 1 bytes T.ht h2 h3 h4 h5 T.hz (by omega) v n xs hown ad news.length c news (by simp)
      (fun j y hy => by
        have hj : 0 < news.length := by have := (List.getElem?_eq_some_iff.1 hy).1; omega
        obtain ⟨ad', h, _, _, hcc⟩ := hcell hj
        injection h with h
        subst h
        exact hcc j y hy)
      h1 hlen hbytes hbase
    unfold Oper.wp execOp
    simp only [ho, resolve, invoke, builtin, Sem.run_bind, Sem.run_pure, Result.andThen_ok, List.map_toArray, List.map_cons, List.map_nil, hs, hx, hrun]
    exact h v' w' a1 a2 a4
end Go.Proofs.Ytcnoehaemankiaa
