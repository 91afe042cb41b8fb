/- A text of rules that is cut off: what is read of it. No program is in sight here. A text of rules with more spaces, line feeds and parentheses: it is read as the same rules. No program is in sight here. -/
import Derived.Test.YtonmpealebggoaaDoorPrpRl
import Derived.Test.YtonmpealebggoaaDoorPrpLen
import Derived.Lib.Replace
import Derived.Lib.Repeat
import Derived.Lib.CountLaws
namespace Go.Proofs.YtonmpealebggoaaDoor
namespace Pr
/-! No colon and no semicolon within a name or a condition. -/
def Tame (l : Src) : Prop := ∀ x ∈ l, x ≠ 58 ∧ x ≠ 59
theorem tame_append {a b : Src} (ha : Tame a) (hb : Tame b) : Tame (a ++ b) := fun x hx => (List.mem_append.1 hx).elim (ha x) (hb x)
theorem tame_name {s : Src} (h : plainB s = true) : Tame s := by
  obtain ⟨c, r, rfl, h1, h2, _⟩ := plain_parts h
  have hl : ∀ x : UInt8, lowB x = true → x ≠ 58 ∧ x ≠ 59 := fun x hx => ⟨fun e => by subst e; exact absurd hx (by decide), fun e => by subst e; exact absurd hx (by decide)⟩
  have hn : ∀ x : UInt8, nmB x = true → x ≠ 58 ∧ x ≠ 59 := fun x hx => ⟨fun e => by subst e; exact absurd hx (by decide), fun e => by subst e; exact absurd hx (by decide)⟩
  intro x hx
  rcases List.mem_cons.1 hx with rfl | hx
  · exact hl _ h1
  · exact hn _ (List.all_eq_true.1 h2 x hx)
theorem tame_dec (u : Nat) : Tame (Lib.decDigits u) := by
  obtain ⟨c, r, h1, h2⟩ := dec_digits u
  intro x hx
  have := List.all_eq_true.1 h2 x (h1 ▸ hx)
  exact ⟨fun e => by subst e; exact absurd this (by decide), fun e => by subst e; exact absurd this (by decide)⟩
theorem tame_itoa (n : Int) : Tame (Lib.itoa n) := by
  unfold Lib.itoa
  split
  · exact tame_append (a := [45]) (by unfold Tame; decide) (tame_dec _)
  · exact tame_dec _
theorem tame_term {t : Tm} (h : TmOk t) (i : Nat) : Tame (termS i t) := by
  unfold termS
  refine tame_append (tame_append ?_ ?_) (tame_name h.nm)
  · split <;> split <;> unfold Tame <;> decide
  · split
    · exact tame_append (tame_itoa _) (by unfold Tame; decide)
    · unfold Tame; decide
theorem tame_terms : ∀ (l : List Tm) (i : Nat), (∀ t ∈ l, TmOk t) → Tame (termsS i l)
  | [], _, _ => fun x hx => by cases hx
  | t :: r, i, h => tame_append (tame_term (h t (by simp)) i) (tame_terms r (i + 1) fun x hx => h x (by simp [hx]))
theorem tame_op (c : Int) : Tame (opS c) := by
  unfold opS
  split
  · unfold Tame; decide
  split
  · unfold Tame; decide
  split
  · unfold Tame; decide
  split
  · unfold Tame; decide
  split <;> unfold Tame <;> decide
theorem tame_show : ∀ (f : Nat) (c : Cd) (least : Nat), VC f c → Tame (showF f c least)
  | 0, _, _, h => h.elim
  | f + 1, c, least, h => by
    have hb : Tame (bareS f c) := by
      unfold bareS
      rcases h with ⟨h0, hc⟩ | ⟨h1, a, e, ha⟩ | ⟨h2, a, b, e, ha, hb⟩
      · rw [if_pos h0]
        have hp := compare_parts hc
        unfold cmpS
        exact tame_append (tame_append (tame_terms _ _ hp.2.2.2.2.2.2.1) (tame_append (tame_append (by unfold Tame; decide) (tame_op _)) (by unfold Tame; decide))) (tame_itoa _)
      · have e0 : kid c 0 = a := by rw [e]; rfl
        rw [if_neg (by omega), if_pos h1, e0]
        exact tame_append (by unfold Tame; decide) (tame_show f a 3 ha)
      · have e0 : kid c 0 = a := by rw [e]; rfl
        have e1 : kid c 1 = b := by rw [e]; rfl
        rw [if_neg (by omega), if_neg (by omega), e0, e1]
        split
        · exact tame_append (tame_append (tame_show f a 2 ha) (by unfold Tame; decide)) (tame_show f b 3 hb)
        · exact tame_append (tame_append (tame_show f a 1 ha) (by unfold Tame; decide)) (tame_show f b 2 hb)
    rw [show_bare]
    split
    · exact tame_append (tame_append (by unfold Tame; decide) hb) (by unfold Tame; decide)
    · exact hb
/-! What is read ends where the text ends. -/
def txt (s : St) : Src := s.1 ++ s.2
theorem skipW_suf : ∀ l : Src, skipW l <:+ l
  | [] => List.suffix_refl _
  | c :: r => by
    rw [skipW]
    split
    · exact (skipW_suf r).trans (List.suffix_cons _ _)
    · exact List.suffix_refl _
theorem lexW_suf (l : Src) : txt (lexW l) <:+ l := by
  unfold txt lexW
  rw [wordF_eq]
  exact skipW_suf l
theorem step_suf (s : St) : txt (lexW s.2) <:+ txt s := (lexW_suf s.2).trans (List.suffix_append _ _)
theorem pSign_suf (s : St) : txt (pSign s).2 <:+ txt s := by
  unfold pSign
  split
  · exact step_suf s
  · exact List.suffix_refl _
theorem pNum_suf {m : Int} {s : St} {r : Int × St} (h : pNum m s = some r) : txt r.2 <:+ txt s := by
  unfold pNum at h
  split at h
  · injection h with h; subst h; exact step_suf s
  · cases h
theorem pName_suf {s : St} {r : Src × St} (h : pName s = some r) : txt r.2 <:+ txt s := by
  unfold pName at h
  split at h
  · injection h with h; subst h; exact step_suf s
  · cases h
theorem pWant_suf {w : Src} {s s2 : St} (h : pWant w s = some s2) : txt s2 <:+ txt s := by
  unfold pWant at h
  split at h
  · injection h with h; subst h; exact step_suf s
  · cases h
theorem pTerm_suf {sg : Int} {s : St} {r : Tm × St} (h : pTerm sg s = some r) : txt r.2 <:+ txt s := by
  unfold pTerm at h
  split at h
  · split at h
    · cases h
    · rename_i n s2 hn
      split at h
      · cases h
      · rename_i nm s3 hm
        injection h with h
        subst h
        exact (pName_suf hm).trans (pNum_suf hn)
  · split at h
    · cases h
    · rename_i nm s3 hm
      injection h with h
      subst h
      exact pName_suf hm
theorem pTerms_suf : ∀ (k : Nat) {l : List Tm} {s : St} {r : List Tm × St}, pTerms k l s = some r → txt r.2 <:+ txt s
  | 0, _, _, _, h => by cases h
  | k + 1, l, s, r, h => by
    unfold pTerms at h
    split at h
    · split at h
      · cases h
      · rename_i t s2 ht
        exact (pTerms_suf k h).trans ((pTerm_suf ht).trans (step_suf s))
    · injection h with h
      subst h
      exact List.suffix_refl _
theorem pCompare_suf {s : St} {r : Cd × St} (h : pCompare s = some r) : txt r.2 <:+ txt s := by
  unfold pCompare at h
  split at h
  · cases h
  · rename_i t s2 ht
    split at h
    · cases h
    · rename_i l s3 hl
      split at h
      · cases h
      · split at h
        · cases h
        · rename_i n s5 hn
          injection h with h
          subst h
          exact (pNum_suf hn).trans ((pSign_suf _).trans ((step_suf s3).trans ((pTerms_suf _ hl).trans ((pTerm_suf ht).trans (pSign_suf s)))))
theorem pMore_suf {g : St → Option (Cd × St)} (hg : ∀ {s r}, g s = some r → txt r.2 <:+ txt s) {kd : Int} {kw : Src} : ∀ (k : Nat) {c : Cd} {s : St} {r : Cd × St}, pMore g kd kw k c s = some r → txt r.2 <:+ txt s
  | 0, _, _, _, h => by cases h
  | k + 1, c, s, r, h => by
    unfold pMore at h
    split at h
    · split at h
      · cases h
      · rename_i d s2 hd
        exact (pMore_suf hg k h).trans ((hg hd).trans (step_suf s))
    · injection h with h
      subst h
      exact List.suffix_refl _
theorem pCond_suf : ∀ (f least : Nat) {s : St} {r : Cd × St}, pCond f least s = some r → txt r.2 <:+ txt s
  | 0, _, _, _, h => by cases h
  | f + 1, least, s, r, h => by
    unfold pCond at h
    split at h
    · split at h
      · split at h
        · cases h
        · rename_i c s2 hc
          injection h with h
          subst h
          exact (pCond_suf f 3 hc).trans (step_suf s)
      · split at h
        · split at h
          · cases h
          · rename_i c s2 hc
            split at h
            · cases h
            · rename_i s3 h3
              injection h with h
              subst h
              exact (pWant_suf h3).trans ((pCond_suf f 1 hc).trans (step_suf s))
        · exact pCompare_suf h
    · split at h
      · cases h
      · rename_i c s2 hc
        exact (pMore_suf (g := pCond f (least + 1)) (fun {s r} => pCond_suf f (least + 1)) _ h).trans (pCond_suf f (least + 1) hc)
/-- A rule that is read has a semicolon. -/
theorem pRule_semi {s : St} {r : Rl × St} (h : pRule s = some r) : (59 : UInt8) ∈ txt s := by
  unfold pRule at h
  split at h
  · cases h
  · rename_i s1 h1
    split at h
    · cases h
    · rename_i nm s2 h2
      split at h
      · cases h
      · rename_i s3 h3
        split at h
        · cases h
        · rename_i c s4 h4
          split at h
          · rename_i h5
            have := (pCond_suf _ _ h4).trans ((pWant_suf h3).trans ((pName_suf h2).trans (pWant_suf h1)))
            exact this.subset (by unfold txt; rw [h5]; simp)
          · cases h
/-! A line without its end. -/
def headS (r : Rl) : Src := wRule ++ [32] ++ r.1 ++ [58, 32] ++ showF 12 r.2 0
theorem line_head (r : Rl) : lineS r = headS r ++ [59, 10] := by simp [lineS, headS, List.append_assoc]
theorem head_semi {r : Rl} (h : RlOk r) : (59 : UInt8) ∉ headS r := by
  intro hx
  have h1 : ∀ x ∈ headS r, x ≠ 59 := by
    intro x hx
    unfold headS at hx
    rcases List.mem_append.1 hx with hx | hx
    · rcases List.mem_append.1 hx with hx | hx
      · rcases List.mem_append.1 hx with hx | hx
        · exact (by decide : ∀ y ∈ wRule ++ [32], y ≠ 59) x hx
        · exact (tame_name h.nm x hx).2
      · exact (by decide : ∀ y ∈ ([58, 32] : Src), y ≠ 59) x hx
    · exact (tame_show 12 r.2 0 h.cd x hx).2
  exact h1 _ hx rfl
theorem rule_read2 {r : Rl} (h : RlOk r) (t : Src) : pRule (lexW (headS r ++ (59 :: t))) = some (r, lexW t) := by
  have hT : headS r ++ (59 :: t) = wRule ++ (32 :: (r.1 ++ (58 :: (32 :: (showF 12 r.2 0 ++ (59 :: t)))))) := by simp [headS, List.append_assoc]
  rw [hT, lexW_rule]
  unfold pRule pWant
  dsimp only
  rw [if_pos rfl]
  dsimp only
  rw [lexW_sp, lexW_name h.nm (good_cons _ rfl)]
  unfold pName
  dsimp only
  rw [if_pos h.nm]
  dsimp only
  rw [lexW_colon]
  dsimp only
  rw [if_pos rfl]
  dsimp only
  rw [lexW_sp, cond_read h.cd (good_cons _ rfl) (by rw [lexW_semi]; exact (by decide : ([59] : Src) ≠ wAnd)) (by rw [lexW_semi]; exact (by decide : ([59] : Src) ≠ wOr))]
  dsimp only
  rw [lexW_semi, if_pos rfl]
theorem count_print : ∀ l : List Rl, (∀ r ∈ l, RlOk r) → (printS l).count 59 = l.length
  | [], _ => rfl
  | r :: l, h => by
    have h1 := count_print l fun x hx => h x (by simp [hx])
    have h2 : (headS r).count 59 = 0 := List.count_eq_zero.2 (head_semi (h r (by simp)))
    have h3 : printS (r :: l) = headS r ++ [59, 10] ++ printS l := by rw [← line_head]; rfl
    rw [h3, List.count_append, List.count_append, h1, h2, List.length_cons]
    have : ([59, 10] : Src).count 59 = 1 := by decide
    omega
theorem cut : ∀ (l : List Rl) (n : Nat), ∃ j u, j ≤ l.length ∧ (printS l).take n = printS (l.take j) ++ u ∧ (u = [] ∨ (∃ r, l[j]? = some r ∧ u ≠ [] ∧ (u <+: headS r ∨ u = headS r ++ [59])))
  | [], n => ⟨0, [], Nat.le_refl _, by simp [printS], .inl rfl⟩
  | r :: l, n => by
    have h3 : printS (r :: l) = lineS r ++ printS l := rfl
    have hl : (lineS r).length = (headS r).length + 2 := by rw [line_head, List.length_append]; rfl
    by_cases hn : (lineS r).length ≤ n
    · obtain ⟨j, u, h1, h2, h4⟩ := cut l (n - (lineS r).length)
      refine ⟨j + 1, u, by simpa using h1, ?_, by simpa using h4⟩
      rw [h3, List.take_append, List.take_of_length_le hn, h2]
      simp [printS, List.append_assoc]
    · by_cases h0 : n = 0
      · subst h0
        exact ⟨0, [], Nat.zero_le _, by simp [printS], .inl rfl⟩
      refine ⟨0, (lineS r).take n, Nat.zero_le _, ?_, .inr ⟨r, rfl, ?_, ?_⟩⟩
      · rw [h3, List.take_append_of_le_length (by omega)]
        simp [printS]
      · intro e
        have := congrArg List.length e
        rw [List.length_take, List.length_nil] at this
        omega
      · by_cases h5 : n ≤ (headS r).length
        · left
          rw [line_head, List.take_append_of_le_length h5]
          exact List.take_prefix _ _
        · right
          have : n = (headS r).length + 1 := by omega
          rw [line_head, this, List.take_append, List.take_of_length_le (by omega)]
          simp
theorem lexW_head {r : Rl} {u : Src} (h : u <+: headS r ++ [59]) (hu : u ≠ []) : (lexW u).1 ≠ [] := by
  cases u with
  | nil => exact absurd rfl hu
  | cons c u =>
    have hc : c = 114 := by
      obtain ⟨t, ht⟩ := h
      have : (headS r ++ [59])[0]? = some 114 := by simp [headS, wRule]
      rw [← ht] at this
      simpa using this
    subst hc
    unfold lexW
    rw [skipW, if_neg (by decide)]
    exact wordF_ne (by simp)
/-- What is read of a text of rules that is cut off. -/
theorem cut_parse {l : List Rl} (h : ∀ r ∈ l, RlOk r) (n : Nat) {m : List Rl} (hm : parseS ((printS l).take n) = some m) : m = l.take m.length ∧ m.length = ((printS l).take n).count 59 := by
  obtain ⟨j, u, hj, e, hu⟩ := cut l n
  have hlt : (l.take j).length = j := by rw [List.length_take]; omega
  have hok : ∀ r ∈ l.take j, RlOk r := fun r hr => h r (List.mem_of_mem_take hr)
  have hp := print_len (l.take j)
  rw [hlt] at hp
  have hcl := count_print _ hok
  rw [hlt] at hcl
  rw [e] at hm ⊢
  unfold parseS at hm
  rw [List.count_append, hcl]
  have hr := pRules_read (l.take j) hok u ((printS (l.take j) ++ u).length + 1 - j) []
  rw [hlt, List.nil_append, show (printS (l.take j) ++ u).length + 1 - j + j = (printS (l.take j) ++ u).length + 1 by rw [List.length_append]; omega] at hr
  rw [hr] at hm
  clear hr
  rcases hu with rfl | ⟨r, hr, hne, hu⟩
  · obtain ⟨q, hq⟩ : ∃ q, (printS (l.take j) ++ []).length + 1 - j = q + 1 := ⟨(printS (l.take j)).length - j, by rw [List.append_nil]; omega⟩
    rw [hq, lexW_nil] at hm
    simp only [pRules] at hm
    rw [if_pos trivial] at hm
    injection hm with hm
    subst hm
    rw [hlt]
    exact ⟨rfl, rfl⟩
  · have hul : 0 < u.length := List.length_pos_iff.2 hne
    obtain ⟨q, hq⟩ : ∃ q, (printS (l.take j) ++ u).length + 1 - j = q + 2 := ⟨(printS (l.take j)).length + u.length - 1 - j, by rw [List.length_append]; omega⟩
    have hrm : RlOk r := h r (List.mem_of_getElem? hr)
    have hfirst : (lexW u).1 ≠ [] := lexW_head (r := r) (by
      rcases hu with hu | rfl
      · exact hu.trans (List.prefix_append _ _)
      · exact List.prefix_refl _) hne
    rw [hq] at hm
    rw [pRules, if_neg hfirst] at hm
    rcases hu with hu | rfl
    · have hno : pRule (lexW u) = none := by
        cases hh : pRule (lexW u) with
        | none => rfl
        | some x => exact absurd (hu.subset ((lexW_suf u).subset (pRule_semi hh))) (head_semi hrm)
      rw [hno] at hm
      cases hm
    · rw [rule_read2 hrm []] at hm
      dsimp only at hm
      rw [lexW_nil, pRules, if_pos rfl] at hm
      injection hm with hm
      have hc : (headS r ++ [59]).count 59 = 1 := by
        rw [List.count_append, List.count_eq_zero.2 (head_semi hrm)]
        decide
      have hj2 : j < l.length := (List.getElem?_eq_some_iff.1 hr).1
      have hm2 : m = l.take (j + 1) := by rw [← hm, List.take_add_one, hr]; rfl
      have hlm : m.length = j + 1 := by rw [hm2, List.length_take]; omega
      rw [hc, hlm]
      exact ⟨hm2, rfl⟩
/-- Rules before others are in order if all are. -/
theorem rules_pre : ∀ {pre l m : List Rl}, rulesE pre (l ++ m) = 0 → rulesE pre l = 0
  | _, [], _, _ => rfl
  | pre, x :: l, m, h => by
    simp only [List.cons_append, rulesE] at h ⊢
    by_cases e : ruleE pre x ≠ 0
    · rw [if_pos e] at h; exact absurd h e
    · rw [if_neg e] at h ⊢
      exact rules_pre h
theorem check_take {l : List Rl} (h : checkE l = 0) (j : Nat) : checkE (l.take j) = 0 := by
  obtain ⟨h1, h2, h3⟩ := check_ok h
  have e : l.take j ++ l.drop j = l := List.take_append_drop j l
  have h4 : rulesE [] (l.take j) = 0 := rules_pre (m := l.drop j) (by rw [e]; exact h2)
  have h5 : (printS (l.take j)).length ≤ (printS l).length := by
    have : printS l = printS (l.take j) ++ printS (l.drop j) := by unfold printS; rw [← List.flatMap_append, e]
    rw [this, List.length_append]; omega
  have h6 : (l.take j).length ≤ l.length := by rw [List.length_take]; omega
  unfold checkE
  rw [if_neg (by omega), if_neg (by rw [h4]; simp), if_neg (by omega)]
end Pr
end Go.Proofs.YtonmpealebggoaaDoor
namespace Go.Proofs.YtonmpealebggoaaDoor
namespace Pr
/-! What ReplaceAll makes of a text. -/
theorem index_free {c : UInt8} {o t : Src} : ∀ {p : Src}, c ∉ p → Lib.index (p ++ (c :: o ++ t)) (c :: o) = (p.length : Int)
  | [], _ => by
    show Lib.index (c :: (o ++ t)) (c :: o) = 0
    unfold Lib.index
    rw [if_pos (by simp)]
  | x :: p, h => by
    have hx : c ≠ x := fun e => h (by simp [e])
    have ih := index_free (c := c) (o := o) (t := t) (p := p) (fun e => h (by simp [e]))
    show Lib.index (x :: (p ++ (c :: o ++ t))) (c :: o) = _
    unfold Lib.index
    rw [if_neg (by simp [List.isPrefixOf, hx]), ih, if_neg (by rw [beq_iff_eq]; omega)]
    simp
theorem index_miss {c : UInt8} {o : Src} : ∀ {p : Src}, c ∉ p → Lib.index p (c :: o) = -1
  | [], _ => rfl
  | x :: p, h => by
    have hx : c ≠ x := fun e => h (by simp [e])
    have ih := index_miss (c := c) (o := o) (p := p) (fun e => h (by simp [e]))
    unfold Lib.index
    rw [if_neg (by simp [List.isPrefixOf, hx]), ih]
    rfl
theorem replace_hit {c : UInt8} {o new p t : Src} (hn : c :: o ≠ new) (h : c ∉ p) : Lib.replaceAll (p ++ (c :: o ++ t)) (c :: o) new = p ++ new ++ Lib.replaceAll t (c :: o) new := by
  have hi := index_free (o := o) (t := t) h
  have hc := Lib.count_hit (sub := c :: o) (by simp) hi
  have hd : (p ++ (c :: o ++ t)).drop (p.length + (c :: o).length) = t := by rw [← List.drop_drop, List.drop_left, List.drop_left]
  have hne : (c :: o == new) = false := by rw [beq_eq_false_iff_ne]; exact hn
  have key : ∀ s : Src, Lib.replaceAll s (c :: o) new = Lib.replaceK (c :: o) new (Lib.count s (c :: o)) s := by
    intro s
    unfold Lib.replaceAll Lib.replace Lib.replaceNum
    rw [if_neg (by rw [hne]; decide), if_pos (.inl (by decide))]
  rw [key, key, hc, hd, Nat.add_comm, Lib.replaceK_hit _ _ _ _ _ hi, hd, List.take_left]
theorem replace_miss {c : UInt8} {o new p : Src} (h : c ∉ p) : Lib.replaceAll p (c :: o) new = p := by
  have hi := index_miss (o := o) h
  unfold Lib.replaceAll Lib.replace Lib.replaceNum
  split
  · rfl
  · rw [if_pos (.inl (by decide)), Lib.count_miss hi]; rfl
/-! The text with m pairs of parentheses around each condition. -/
def opn (m : Nat) : Src := Lib.repeatL [40, 32, 10] m
def cls' (m : Nat) : Src := Lib.repeatL [32, 41] m
def preS (r : Rl) : Src := wRule ++ [32] ++ r.1
def midS (m : Nat) (r : Rl) : Src := preS r ++ ([32, 58] ++ opn m) ++ (showF 12 r.2 0 ++ [59, 10])
def wideS (m : Nat) (r : Rl) : Src := preS r ++ ([32, 58] ++ opn m) ++ (showF 12 r.2 0 ++ (cls' m ++ [10, 32, 59]) ++ [10])
def widS (m : Nat) (l : List Rl) : Src := l.flatMap (wideS m)
theorem pre_tame {r : Rl} (h : RlOk r) : Tame (preS r) := tame_append (by unfold Tame; decide) (tame_name h.nm)
theorem rep_tame {l : Src} (h : Tame l) : ∀ m, Tame (Lib.repeatL l m)
  | 0 => fun x hx => by cases hx
  | m + 1 => tame_append h (rep_tame h m)
theorem rep_colon (m : Nat) : ∀ (l : List Rl), (∀ r ∈ l, RlOk r) → Lib.replaceAll (printS l) [58, 32] ([32, 58] ++ opn m) = l.flatMap (midS m)
  | [], _ => by
    show Lib.replaceAll [] _ _ = []
    exact replace_miss (by simp)
  | r :: l, h => by
    have ih := rep_colon m l fun x hx => h x (by simp [hx])
    have hr := h r (by simp)
    have h58 : (58 : UInt8) ∉ preS r := fun hx => (pre_tame hr _ hx).1 rfl
    have hs58 : (58 : UInt8) ∉ showF 12 r.2 0 ++ [59, 10] := by
      intro hx
      rcases List.mem_append.1 hx with hx | hx
      · exact (tame_show 12 r.2 0 hr.cd _ hx).1 rfl
      · exact absurd hx (by decide)
    have hne : ([58, 32] : Src) ≠ [32, 58] ++ opn m := by intro e; injection e with e; exact absurd e (by decide)
    have e : printS (r :: l) = preS r ++ (58 :: [32] ++ (showF 12 r.2 0 ++ [59, 10] ++ printS l)) := by simp [printS, lineS, preS, List.append_assoc]
    rw [e, replace_hit hne h58]
    have key : ∀ q : Src, (58 : UInt8) ∉ q → ∀ l : List Rl, (∀ r ∈ l, RlOk r) → Lib.replaceAll (printS l) [58, 32] ([32, 58] ++ opn m) = l.flatMap (midS m) → Lib.replaceAll (q ++ printS l) [58, 32] ([32, 58] ++ opn m) = q ++ l.flatMap (midS m) := by
      intro q hq l hl hi
      cases l with
      | nil => simp only [printS, List.flatMap_nil, List.append_nil]; exact replace_miss hq
      | cons r l =>
        have h58 : (58 : UInt8) ∉ preS r := fun hx => (pre_tame (hl r (by simp)) _ hx).1 rfl
        have e : printS (r :: l) = preS r ++ (58 :: [32] ++ (showF 12 r.2 0 ++ [59, 10] ++ printS l)) := by simp [printS, lineS, preS, List.append_assoc]
        rw [e, replace_hit hne h58] at hi
        rw [e, ← List.append_assoc, replace_hit hne (p := q ++ preS r) (by intro hx; exact (List.mem_append.1 hx).elim hq h58), List.append_assoc q, List.append_assoc q, hi]
    rw [key _ hs58 l (fun x hx => h x (by simp [hx])) ih]
    simp [midS, List.append_assoc]
theorem rep_semi (m : Nat) : ∀ (l : List Rl), (∀ r ∈ l, RlOk r) → ∀ q : Src, (59 : UInt8) ∉ q → Lib.replaceAll (q ++ l.flatMap (midS m)) [59] (cls' m ++ [10, 32, 59]) = q ++ widS m l
  | [], _, q, hq => by
    simp only [List.flatMap_nil, List.append_nil, widS]
    exact replace_miss hq
  | r :: l, h, q, hq => by
    have hr := h r (by simp)
    have ih := rep_semi m l (fun x hx => h x (by simp [hx])) [10] (by decide)
    have hp : (59 : UInt8) ∉ preS r := fun hx => (pre_tame hr _ hx).2 rfl
    have ho : (59 : UInt8) ∉ opn m := fun hx => (rep_tame (by unfold Tame; decide) m _ hx).2 rfl
    have hs : (59 : UInt8) ∉ showF 12 r.2 0 := fun hx => (tame_show 12 r.2 0 hr.cd _ hx).2 rfl
    have hne : ([59] : Src) ≠ cls' m ++ [10, 32, 59] := by
      intro e
      have := congrArg List.length e
      simp at this
    have e : q ++ (r :: l).flatMap (midS m) = (q ++ preS r ++ ([32, 58] ++ opn m) ++ showF 12 r.2 0) ++ (59 :: [] ++ ([10] ++ l.flatMap (midS m))) := by simp [midS, List.append_assoc]
    rw [e, replace_hit hne (by
      intro hx
      rcases List.mem_append.1 hx with hx | hx
      · rcases List.mem_append.1 hx with hx | hx
        · exact (List.mem_append.1 hx).elim hq hp
        · rcases List.mem_append.1 hx with hx | hx
          · exact absurd hx (by decide)
          · exact ho hx
      · exact hs hx), ih]
    simp [widS, wideS, List.append_assoc]
/-- Both replacements. -/
theorem wide_text (m : Nat) {l : List Rl} (h : ∀ r ∈ l, RlOk r) : Lib.replaceAll (Lib.replaceAll (printS l) [58, 32] ([32, 58] ++ opn m)) [59] (cls' m ++ [10, 32, 59]) = widS m l := by
  rw [rep_colon m l h]
  exact rep_semi m l h [] (by simp)
/-! Reading it. -/
theorem R3_wide {c : Cd} {T : Src} (h : RL 1 c T) : R3 c ([40, 32, 10] ++ T ++ [32, 41]) := by
  intro r hr f hf
  have hT : [40, 32, 10] ++ T ++ [32, 41] ++ r = 40 :: (32 :: (10 :: (T ++ (32 :: (41 :: r))))) := by simp [List.append_assoc]
  rw [hT, lexW_open] at hf ⊢
  obtain ⟨f', rfl⟩ : ∃ f', f = f' + 1 := ⟨f - 1, by omega⟩
  have h1 := lexW_len (T ++ (32 :: (41 :: r)))
  simp only [stLen, List.length_cons, List.length_nil] at hf h1
  rw [pCond_par, lexW_sp, lexW_lf, h (32 :: (41 :: r)) (good_sp _) (by rw [lexW_sp, lexW_shut]; exact (by decide : ([41] : Src) ≠ wAnd)) (fun _ => by rw [lexW_sp, lexW_shut]; exact (by decide : ([41] : Src) ≠ wOr)) f' (by simp only [stLen]; omega)]
  dsimp only
  rw [lexW_sp, lexW_shut]
  rfl
theorem RL_wide {c : Cd} {T : Src} (h : RL 1 c T) : ∀ m, RL 1 c (opn m ++ T ++ cls' m)
  | 0 => by simpa [opn, cls', Lib.repeatL] using h
  | m + 1 => by
    have ih := R3_wide (RL_wide h m)
    have e : opn (m + 1) ++ T ++ cls' (m + 1) = [40, 32, 10] ++ (opn m ++ T ++ cls' m) ++ [32, 41] := by
      have e1 : cls' (m + 1) = cls' m ++ [32, 41] := by unfold cls'; rw [Lib.repeatL_add, Lib.repeatL_one]
      rw [e1]
      simp [opn, Lib.repeatL, List.append_assoc]
    rw [e]
    have s2 := SP_of_R (least := 2) (.inr rfl) (fun _ => ih) (fun h => absurd h (by decide))
    have r2 := RL_of_SP (.inr rfl) s2
    exact RL_of_SP (.inl rfl) (SP_of_R (least := 1) (.inl rfl) (fun h => absurd h (by decide)) fun _ => r2)
theorem show_least {f : Nat} {c : Cd} (h : VC f c) : showF f c 0 = showF f c 1 := by
  cases f with
  | zero => exact h.elim
  | succ f =>
    have hl : 1 ≤ lev c.kind := by unfold lev; split; omega; split <;> omega
    rw [show_bare, show_bare, if_neg (by omega), if_neg (by omega)]
theorem wide_read {r : Rl} (h : RlOk r) (m : Nat) (t : Src) : pRule (lexW (wideS m r ++ t)) = some (r, lexW t) := by
  have hT : wideS m r ++ t = wRule ++ (32 :: (r.1 ++ (32 :: (58 :: ((opn m ++ showF 12 r.2 1 ++ cls' m) ++ (10 :: (32 :: (59 :: (10 :: t))))))))) := by
    rw [← show_least h.cd]
    simp [wideS, preS, List.append_assoc]
  have hc := RL_wide (all_read 12 r.2 h.cd).r1 m
  rw [hT, lexW_rule]
  unfold pRule pWant
  dsimp only
  rw [if_pos rfl]
  dsimp only
  rw [lexW_sp, lexW_name h.nm (good_sp _)]
  unfold pName
  dsimp only
  rw [if_pos h.nm]
  dsimp only
  rw [lexW_sp, lexW_colon]
  dsimp only
  rw [if_pos rfl]
  dsimp only
  rw [hc (10 :: (32 :: (59 :: (10 :: t)))) (good_cons _ rfl) (by rw [lexW_lf, lexW_sp, lexW_semi]; exact (by decide : ([59] : Src) ≠ wAnd)) (fun _ => by rw [lexW_lf, lexW_sp, lexW_semi]; exact (by decide : ([59] : Src) ≠ wOr)) _ (by unfold workN; omega)]
  dsimp only
  rw [lexW_lf, lexW_sp, lexW_semi, if_pos rfl]
  dsimp only
  rw [lexW_lf]
theorem wides_read (m : Nat) : ∀ (l : List Rl), (∀ r ∈ l, RlOk r) → ∀ (k : Nat) (acc : List Rl), pRules (k + l.length + 1) acc (lexW (widS m l)) = some (acc ++ l)
  | [], _, k, acc => by simp [widS, lexW_nil, pRules]
  | r :: l, h, k, acc => by
    have hr := wide_read (h r (by simp)) m (widS m l)
    have ih := wides_read m l (fun x hx => h x (by simp [hx])) k (acc ++ [r])
    have hT : widS m (r :: l) = wideS m r ++ widS m l := rfl
    have hne : (lexW (wideS m r ++ widS m l)).1 ≠ [] := by
      have : wideS m r ++ widS m l = wRule ++ (32 :: (r.1 ++ ([32, 58] ++ opn m) ++ (showF 12 r.2 0 ++ (cls' m ++ [10, 32, 59]) ++ [10]) ++ widS m l)) := by simp [wideS, preS, List.append_assoc]
      rw [this, lexW_rule]; exact (by decide : wRule ≠ [])
    rw [hT, List.length_cons, pRules, if_neg hne, hr]
    dsimp only
    rw [show k + (l.length + 1) = k + l.length + 1 by omega, ih, List.append_assoc]
    rfl
theorem wide_len (m : Nat) (r : Rl) : (wideS m r).length = (lineS r).length + 5 * m + 2 := by
  simp only [wideS, lineS, preS, opn, cls', List.length_append, Lib.repeatL_length, List.length_cons, List.length_nil]
  omega
theorem wid_len (m : Nat) : ∀ l : List Rl, (widS m l).length = (printS l).length + l.length * (5 * m + 2)
  | [] => by simp [widS, printS]
  | r :: l => by
    have h1 := wid_len m l
    have h2 := wide_len m r
    simp only [widS, printS, List.flatMap_cons, List.length_append, List.length_cons] at h1 ⊢
    rw [Nat.succ_mul]
    omega
/-- The wider text is read as the same rules. -/
theorem parse_wide {l : List Rl} (h : ∀ r ∈ l, RlOk r) (m : Nat) : parseS ([10, 32] ++ widS m l) = some l := by
  have h1 := wides_read m l h ((widS m l).length + 2 - l.length) []
  have h2 := wid_len m l
  have h3 := print_len l
  have h4 : 10 :: 32 :: widS m l = [10, 32] ++ widS m l := rfl
  unfold parseS
  rw [← h4, lexW_lf, lexW_sp]
  rw [show (10 :: 32 :: widS m l).length + 1 = (widS m l).length + 2 - l.length + l.length + 1 by simp only [List.length_cons]; omega]
  rw [h1]
  rfl
end Pr
end Go.Proofs.YtonmpealebggoaaDoor
