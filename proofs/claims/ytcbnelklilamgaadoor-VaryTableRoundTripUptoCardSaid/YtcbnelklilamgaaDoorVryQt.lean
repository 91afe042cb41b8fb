/- What ReplaceAll makes of quotes; the walk of quoted. -/
import Derived.Test.YtcbnelklilamgaaDoorVryNm
import Derived.Lib.CountLaws
import Derived.Lib.SplitLaws
namespace Go.Proofs.YtcbnelklilamgaaDoor
open Go.RowKit Vr
theorem index_free {c : UInt8} {o t : Src} : ∀ {p : Src}, c ∉ p → Lib.index (p ++ (c :: o ++ t)) (c :: o) = (p.length : Int)
  | [], _ => by
    show Lib.index (c :: (o ++ t)) (c :: o) = 0
    unfold Lib.index
    rw [if_pos (by simp)]
  | x :: p, h => by
    have hx : c ≠ x := fun e => h (by simp [e])
    have ih := index_free (c := c) (o := o) (t := t) (p := p) (fun e => h (by simp [e]))
    show Lib.index (x :: (p ++ (c :: o ++ t))) (c :: o) = _
    unfold Lib.index
    rw [if_neg (by simp [List.isPrefixOf, hx]), ih, if_neg (by rw [beq_iff_eq]; omega)]
    simp
theorem index_miss {c : UInt8} {o : Src} : ∀ {p : Src}, c ∉ p → Lib.index p (c :: o) = -1
  | [], _ => rfl
  | x :: p, h => by
    have hx : c ≠ x := fun e => h (by simp [e])
    have ih := index_miss (c := c) (o := o) (p := p) (fun e => h (by simp [e]))
    unfold Lib.index
    rw [if_neg (by simp [List.isPrefixOf, hx]), ih]
    rfl
theorem replace_hit {c : UInt8} {o new p t : Src} (hn : c :: o ≠ new) (h : c ∉ p) : Lib.replaceAll (p ++ (c :: o ++ t)) (c :: o) new = p ++ new ++ Lib.replaceAll t (c :: o) new := by
  have hi := index_free (o := o) (t := t) h
  have hc := Lib.count_hit (sub := c :: o) (by simp) hi
  have hd : (p ++ (c :: o ++ t)).drop (p.length + (c :: o).length) = t := by rw [← List.drop_drop, List.drop_left, List.drop_left]
  have hne : (c :: o == new) = false := by rw [beq_eq_false_iff_ne]; exact hn
  have key : ∀ s : Src, Lib.replaceAll s (c :: o) new = Lib.replaceK (c :: o) new (Lib.count s (c :: o)) s := by
    intro s
    unfold Lib.replaceAll Lib.replace Lib.replaceNum
    rw [if_neg (by rw [hne]; decide), if_pos (.inl (by decide))]
  rw [key, key, hc, hd, Nat.add_comm, Lib.replaceK_hit _ _ _ _ _ hi, hd, List.take_left]
theorem replace_miss {c : UInt8} {o new p : Src} (h : c ∉ p) : Lib.replaceAll p (c :: o) new = p := by
  have hi := index_miss (o := o) h
  unfold Lib.replaceAll Lib.replace Lib.replaceNum
  split
  · rfl
  · rw [if_pos (.inl (by decide)), Lib.count_miss hi]; rfl
theorem repl_dbl : ∀ (s p : Src), (34 : UInt8) ∉ p → Lib.replaceAll (p ++ s) [34] [34, 34] = p ++ s.flatMap dbl
  | [], p, h => by rw [List.append_nil, replace_miss h]; simp
  | c :: s, p, h => by
    by_cases hc : c = 34
    · subst hc
      have h1 := replace_hit (c := 34) (o := []) (new := [34, 34]) (p := p) (t := s) (by decide) h
      have h2 := repl_dbl s [] (by simp)
      rw [List.nil_append] at h2
      show Lib.replaceAll (p ++ (34 :: [] ++ s)) [34] [34, 34] = _
      rw [h1, h2]
      simp [dbl]
    · have h3 : (34 : UInt8) ∉ p ++ [c] := by
        simp only [List.mem_append, List.mem_singleton, not_or]
        exact ⟨h, fun e => hc e.symm⟩
      have h2 := repl_dbl s (p ++ [c]) h3
      have e1 : p ++ [c] ++ s = p ++ c :: s := by simp
      rw [e1] at h2
      rw [h2]
      simp [dbl, hc]
/-- The library's cell that strings.ReplaceAll reads. -/
def Mx (w : World) : Prop := (∃ m, w.cell? ⟨2, 0, none⟩ = some (.int .i64 m)) ∧ 2 < w.heap.size
theorem Mx.later {w w' : World} (h : Mx w) (hb : Below w.heap.size w w') : Mx w' := by
  obtain ⟨⟨m, hm⟩, hl⟩ := h
  exact ⟨⟨m, (hb.cell (p := ⟨2, 0, none⟩) hl).trans hm⟩, Nat.lt_of_lt_of_le hl hb.size⟩
theorem dbl_len (s : Src) : (s.flatMap dbl).length ≤ 2 * s.length := by
  induction s with
  | nil => simp
  | cons c s ih =>
    have h1 : (dbl c).length ≤ 2 := by unfold dbl; split <;> simp
    simp only [List.flatMap_cons, List.length_append, List.length_cons]
    omega
theorem quo_len (s : Src) : (quo s).length ≤ 2 * s.length + 2 := by
  unfold quo
  have := dbl_len s
  split
  · omega
  · simp only [List.length_cons, List.length_append, List.length_nil]; omega
theorem spec_any (s : Src) : s.any [44, 34, 10].contains = s.any spec := by
  congr 1
  funext c
  simp [spec, Bool.or_assoc]
  rfl
set_option maxRecDepth 100000 in
set_option maxHeartbeats 8000000 in
theorem quoted_any (s : Src) (w : World) (hs : s.length < 4294967281) (hM : Mx w) :
    Calls Tryd.prog 23 #[.string (Bs s)] w fun e w' => e = .returned (.string (Bs (quo s))) ∧ Below w.heap.size w w' := by
  have hsz := bs_size s
  have HCa := Lib.hid (containsAny_any (Bs s) ⟨#[44, 34, 10]⟩ w (by decide) (by omega) (by decide) (by decide))
  rw [bs_list, show (⟨#[44, 34, 10]⟩ : ByteArray).data.toList = [44, 34, 10] from rfl, spec_any] at HCa
  have HRp : Hid (∀ W, Below w.heap.size w W → Calls Tryd.prog 39 #[.string (Bs s), .string ⟨#[34]⟩, .string ⟨#[34, 34]⟩] W fun e w' => e = .returned (.string (Bs (s.flatMap dbl))) ∧ Below W.heap.size W w') := fun W hW => by
    obtain ⟨⟨m, hm⟩, -⟩ := hM.later hW
    have hc := Lib.countB_le ⟨#[34]⟩ (by decide) (Bs s).size (Bs s) (Nat.le_refl _)
    have h1 := strings_ReplaceAll (Bs s) ⟨#[34]⟩ ⟨#[34, 34]⟩ m W (by omega) hm (by decide) (by
      have : (⟨#[34, 34]⟩ : ByteArray).size = 2 := rfl
      rw [this]
      omega)
    have h2 := repl_dbl s [] (by simp)
    rw [List.nil_append, List.nil_append] at h2
    rw [bs_list, show (⟨#[34]⟩ : ByteArray).data.toList = [34] from rfl, show (⟨#[34, 34]⟩ : ByteArray).data.toList = [34, 34] from rfl, h2] at h1
    exact h1
  have hem : (Bs s).toList.isEmpty = s.isEmpty := by rw [Lib.toList_data, bs_list]
  have HQ : Hid (quo s = if (!s.isEmpty && !s.any spec) = true then s else 34 :: (s.flatMap dbl ++ [34])) := by
    unfold quo
    have : (s != []) = !s.isEmpty := by cases s <;> rfl
    rw [this]
    rfl
  have hD := dbl_len s
  have hD2 : (List.map (fun a => List.length (dbl a)) s).sum ≤ 2 * s.length := by
    have := dbl_len s
    rw [List.length_flatMap] at this
    exact this
  go_enter Tryd.func23, Tryd.ntmps23
  have hdz := bs_size (s.flatMap dbl)
  have hEq : (⟨#[34]⟩ : ByteArray) ++ Bs (s.flatMap dbl) ++ ⟨#[34]⟩ = Bs (34 :: (s.flatMap dbl ++ [34])) := by
    apply ByteArray.ext
    apply Array.ext'
    simp
  cases he : s.isEmpty with
  | true =>
    rw [he] at hem HQ
    go_wp2_with fail
    refine (HRp.out _ (Below.refl _ _)).mono ?_
    rintro e w2 ⟨rfl, hb⟩
    go_wp2_with fail
    all_goals first
      | (go_ret; exact ⟨by rw [HQ.out]; rfl, hb⟩)
      | (exfalso; omega)
  | false =>
    rw [he] at hem HQ
    go_wp2_with fail
    refine HCa.out.mono ?_
    rintro e w2 ⟨rfl, hb⟩
    cases ha : s.any spec with
    | true =>
      rw [ha] at HQ
      have HR2 := Lib.hid (HRp.out w2 hb)
      go_wp2_with fail
      refine HR2.out.mono ?_
      rintro e w3 ⟨rfl, hb3⟩
      go_wp2_with fail
      all_goals first
        | (go_ret; exact ⟨by rw [HQ.out]; rfl, hb.trans (hb3.mono hb.size)⟩)
        | (exfalso; omega)
    | false =>
      rw [ha] at HQ
      go_wp2_with fail
      go_ret
      exact ⟨by rw [HQ.out]; rfl, hb⟩
end Go.Proofs.YtcbnelklilamgaaDoor
