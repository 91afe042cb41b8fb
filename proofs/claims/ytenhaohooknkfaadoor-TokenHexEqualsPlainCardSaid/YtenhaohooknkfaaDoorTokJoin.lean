/- Joined tokens are read as they were, and without a separator as fewer; in plain words. -/
import Derived.Test.YtenhaohooknkfaaDoorTokPrint
namespace Go.Proofs.YtenhaohooknkfaaDoor
namespace Tk
def prTok (t : BTok) : Src :=
  if t.kind = 1 then Lib.itoa t.int else if t.kind = 2 then 47 :: prName t.text else if t.kind = 3 then prText t.text else if t.kind = 4 then 64 :: Lib.itoa t.int else if t.kind = 5 then t.text
  else if t.kind = 6 then [91] else if t.kind = 7 then [93] else if t.kind = 8 then [60, 60] else [62, 62]
/-- A token that Print writes. -/
inductive VTok : BTok → Prop
  | int (n : Int) (h1 : -2147483647 ≤ n) (h2 : n ≤ 2147483647) : VTok ⟨1, n, []⟩
  | name (s : Src) (h0 : s ≠ []) (h1 : s.length ≤ 31) (h2 : ∀ c ∈ s, c ≠ 0) : VTok ⟨2, 0, s⟩
  | text (s : Src) (h : s.length ≤ 1024) : VTok ⟨3, 0, s⟩
  | ref (n : Nat) (h1 : 1 ≤ n) (h2 : n ≤ 255) : VTok ⟨4, n, []⟩
  | word (s : Src) (h : word s = .ok s) : VTok ⟨5, 0, s⟩
  | list : VTok ⟨6, 0, []⟩
  | listEnd : VTok ⟨7, 0, []⟩
  | dict : VTok ⟨8, 0, []⟩
  | dictEnd : VTok ⟨9, 0, []⟩
def startR (t : BTok) : Bool := decide (t.kind = 1) || decide (t.kind = 5)
def endR (t : BTok) : Bool := decide (t.kind = 1) || (decide (t.kind = 2) || (decide (t.kind = 4) || decide (t.kind = 5)))
theorem notRun {k : Int} (h : k = 3 ∨ 6 ≤ k) : ¬ isRun k := by unfold isRun; omega
theorem endR_run {t : BTok} : endR t = true ↔ isRun t.kind := by unfold endR isRun; simp
theorem word_ok {w v : Src} (h : word w = .ok v) : v = w ∧ ∃ x r, w = x :: r ∧ w.length ≤ 31 ∧ wordC true x = true ∧ r.all (wordC false) = true := by
  cases w with
  | nil => cases h
  | cons x r =>
    simp only [word] at h
    split at h
    · rename_i h1
      rw [Bool.and_eq_true] at h1
      split at h
      · cases h
      · cases h; exact ⟨rfl, x, r, rfl, by omega, h1.1, h1.2⟩
    · cases h
theorem wordC_facts (x : UInt8) : (wordC true x = true → regular x = true ∧ signB x = false) ∧ (wordC false x = true → regular x = true) := by
  have := u8_all (fun x => (!wordC true x || (regular x && !signB x)) && (!wordC false x || regular x)) (by decide +kernel) x
  simp only [Bool.and_eq_true, Bool.or_eq_true, Bool.not_eq_true'] at this
  refine ⟨fun h => ?_, fun h => ?_⟩
  · rcases this.1 with h1 | h1
    · rw [h] at h1; cases h1
    · exact h1
  · rcases this.2 with h1 | h1
    · rw [h] at h1; cases h1
    · exact h1
theorem word_regular {w : Src} (h : word w = .ok w) : ∃ x r, w = x :: r ∧ signB x = false ∧ ∀ c ∈ w, regular c = true := by
  obtain ⟨_, x, r, rfl, _, h1, h2⟩ := word_ok h
  refine ⟨x, r, rfl, ((wordC_facts x).1 h1).2, fun c hc => ?_⟩
  rcases List.mem_cons.1 hc with rfl | hc
  · exact ((wordC_facts c).1 h1).1
  · exact (wordC_facts c).2 (List.all_eq_true.1 h2 c hc)
theorem itoa_nat (n : Nat) : Lib.itoa (n : Int) = Lib.decDigits n := by unfold Lib.itoa; rw [if_neg (by omega)]; rfl
theorem white_regular {x : UInt8} (h : regular x = true) : white x = false ∧ x ≠ 37 := by
  have := u8_all (fun x => !regular x || (!white x && x != 37)) (by decide +kernel) x
  rw [h] at this; simpa using this
/-- A printed token is read again, whatever follows that can't run into it. -/
theorem pr_one {t : BTok} (h : VTok t) (b : Src) (hb : isRun t.kind → nr b) : one (prTok t ++ b) = .ok (t, (prTok t).length) := by
  cases h with
  | int n h1 h2 =>
    obtain ⟨x, r, e, hx, hr⟩ := itoa_shape n
    show one (Lib.itoa n ++ b) = .ok (_, (Lib.itoa n).length)
    have hrun : run (Lib.itoa n ++ b) = Lib.itoa n := run_ext hr (hb (.inl rfl))
    have hi := int_itoa n h1 h2
    rw [e] at hrun hi ⊢
    rw [List.cons_append] at hrun ⊢
    rw [one_cons, if_pos hx, hrun, hi]; rfl
  | name s h0 h1 h2 =>
    show one (47 :: (prName s ++ b)) = .ok (_, (47 :: prName s).length)
    have hrun : run (prName s ++ b) = prName s := run_ext (prName_regular s) (hb (.inr (.inl rfl)))
    rw [one_cons, if_neg (by decide), if_neg (by decide), if_pos (by decide), hrun, name_pr h0 h1 h2, List.length_cons, Nat.add_comm]; rfl
  | text s h =>
    show one (40 :: ((s.flatMap prByte ++ [41]) ++ b)) = .ok (_, (40 :: (s.flatMap prByte ++ [41])).length)
    rw [one_cons, if_neg (by decide), if_neg (by decide), if_neg (by decide), if_neg (by decide), if_pos (by decide), List.append_assoc, List.singleton_append, text_pr h]
    show Except.ok _ = Except.ok _
    simp only [List.length_cons, List.length_append, List.length_nil]
  | ref n h1 h2 =>
    show one (64 :: (Lib.itoa n ++ b)) = .ok (_, (64 :: Lib.itoa n).length)
    rw [itoa_nat]
    have hrun : run (Lib.decDigits n ++ b) = Lib.decDigits n := run_ext (fun c hc => digit_regular ((dec_all n).1 c hc)) (hb (.inr (.inr (.inl rfl))))
    rw [one_cons, if_neg (by decide), if_neg (by decide), if_neg (by decide), if_pos (by decide), hrun, ref_dec n h1 h2, List.length_cons, Nat.add_comm]; rfl
  | word s h =>
    obtain ⟨x, r, e, hx, hr⟩ := word_regular h
    show one (s ++ b) = .ok (_, s.length)
    have hrun : run (s ++ b) = s := run_ext hr (hb (.inr (.inr (.inr rfl))))
    subst e
    rw [List.cons_append] at hrun ⊢
    rw [one_cons, if_neg (by rw [hx]; decide), if_pos (hr x (by simp)), hrun, h]; rfl
  | list => rfl
  | listEnd => rfl
  | dict => rfl
  | dictEnd => rfl
theorem pr_head {t : BTok} (h : VTok t) : ∃ x q, prTok t = x :: q ∧ white x = false ∧ x ≠ 37 ∧ regular x = startR t := by
  cases h with
  | int n h1 h2 =>
    obtain ⟨x, r, e, hx, hr⟩ := itoa_shape n
    have hx2 := hr x (by rw [e]; simp)
    exact ⟨x, r, e, (white_regular hx2).1, (white_regular hx2).2, hx2⟩
  | name s h0 h1 h2 => exact ⟨47, _, rfl, by decide, by decide, (by show regular 47 = (decide ((2 : Int) = 1) || decide ((2 : Int) = 5)); decide)⟩
  | text s h => exact ⟨40, _, rfl, by decide, by decide, (by show regular 40 = (decide ((3 : Int) = 1) || decide ((3 : Int) = 5)); decide)⟩
  | ref n h1 h2 => exact ⟨64, _, rfl, by decide, by decide, (by show regular 64 = (decide ((4 : Int) = 1) || decide ((4 : Int) = 5)); decide)⟩
  | word s h =>
    obtain ⟨x, r, e, hx, hr⟩ := word_regular h
    have hx2 := hr x (by rw [e]; simp)
    exact ⟨x, r, e, (white_regular hx2).1, (white_regular hx2).2, hx2⟩
  | list => exact ⟨91, [], rfl, by decide, by decide, by decide⟩
  | listEnd => exact ⟨93, [], rfl, by decide, by decide, by decide⟩
  | dict => exact ⟨60, [60], rfl, by decide, by decide, by decide⟩
  | dictEnd => exact ⟨62, [62], rfl, by decide, by decide, by decide⟩
theorem snoc_of {l : Src} (h : l ≠ []) : ∃ q x, l = q ++ [x] := ⟨l.dropLast, l.getLast h, (List.dropLast_concat_getLast h).symm⟩
theorem pr_last {t : BTok} (h : VTok t) : ∃ q x, prTok t = q ++ [x] ∧ regular x = endR t := by
  have reg : ∀ {l : Src}, l ≠ [] → (∀ c ∈ l, regular c = true) → ∃ q x, l = q ++ [x] ∧ regular x = true := fun hn hr => by
    obtain ⟨q, x, e⟩ := snoc_of hn
    exact ⟨q, x, e, hr x (by rw [e]; simp)⟩
  cases h with
  | int n h1 h2 =>
    obtain ⟨x, r, e, hx, hr⟩ := itoa_shape n
    exact reg (l := Lib.itoa n) (by rw [e]; simp) hr
  | name s h0 h1 h2 =>
    obtain ⟨q, x, e, hx⟩ := reg (l := prName s) (fun e => h0 (by
      have := prName_len s
      rw [e] at this
      exact List.eq_nil_of_length_eq_zero (by simpa using this))) (prName_regular s)
    exact ⟨47 :: q, x, by show 47 :: prName s = _; rw [e]; rfl, hx⟩
  | text s h => exact ⟨40 :: s.flatMap prByte, 41, rfl, (by show regular 41 = (decide ((3 : Int) = 1) || (decide ((3 : Int) = 2) || (decide ((3 : Int) = 4) || decide ((3 : Int) = 5)))); decide)⟩
  | ref n h1 h2 =>
    obtain ⟨y, r, e0, _, hr⟩ := itoa_shape n
    obtain ⟨q, x, e, hx⟩ := reg (l := Lib.itoa n) (by rw [e0]; simp) hr
    exact ⟨64 :: q, x, by show 64 :: Lib.itoa n = _; rw [e]; rfl, hx⟩
  | word s h =>
    obtain ⟨x, r, e, hx, hr⟩ := word_regular h
    exact reg (l := s) (by rw [e]; simp) hr
  | list => exact ⟨[], 91, rfl, by decide⟩
  | listEnd => exact ⟨[], 93, rfl, by decide⟩
  | dict => exact ⟨[60], 60, rfl, by decide⟩
  | dictEnd => exact ⟨[62], 62, rfl, by decide⟩
theorem pr_own {t : BTok} (h : VTok t) {b x : Src} {y : UInt8} (hx : prTok t ++ b = y :: x) (hb : isRun t.kind → nr b) : Own (y :: x) t (prTok t).length (prTok t) b := by
  obtain ⟨z, q, e, _⟩ := pr_head h
  exact ⟨hx.symm, rfl, by rw [e]; simp, hb, fun b' hb' => pr_one h b' hb'⟩
/-- Tokens, joined; whether a regular byte stands ahead. -/
def sepB (o : Bool) (t : BTok) : Src := if o && startR t then [32] else []
def joinL : Bool → List BTok → Src
  | _, [] => []
  | o, t :: ts => sepB o t ++ (prTok t ++ joinL (endR t) ts)
theorem nr_join {ts : List BTok} (h : ∀ t ∈ ts, VTok t) : nr (joinL true ts) := by
  cases ts with
  | nil => exact nr_nil
  | cons t ts =>
    obtain ⟨x, q, e, _, _, hx⟩ := pr_head (h t (by simp))
    show nr (sepB true t ++ (prTok t ++ joinL (endR t) ts))
    unfold sepB
    cases hs : startR t with
    | true => exact nr_cons (by decide)
    | false =>
      rw [hs] at hx
      rw [e]; exact nr_cons hx
theorem sep_skip {o : Bool} {t : BTok} (h : VTok t) (b : Src) : skipN false (sepB o t ++ (prTok t ++ b)) = (sepB o t).length ∧ (sepB o t ++ (prTok t ++ b)).drop (sepB o t).length = prTok t ++ b := by
  obtain ⟨x, q, e, h1, h2, _⟩ := pr_head h
  refine ⟨?_, List.drop_left⟩
  have h0 : skipN false (prTok t ++ b) = 0 := by rw [e, List.cons_append]; exact skip_zero h1 h2
  unfold sepB
  split
  · show skipN false (32 :: (prTok t ++ b)) = 1
    simp only [skipN]
    rw [if_neg (by decide), if_pos (by decide), h0]
  · exact h0
theorem scan_join : ∀ (ts : List BTok) (o : Bool) (p f : Nat), (∀ t ∈ ts, VTok t) → (joinL o ts).length < f → ∃ us, scanF f p (joinL o ts) = .ok us ∧ us.map (·.b) = ts
  | [], o, p, f, _, hf => by
    obtain ⟨g, rfl⟩ : ∃ g, f = g + 1 := ⟨f - 1, by omega⟩
    exact ⟨[], scanF_nil rfl, rfl⟩
  | t :: ts, o, p, f, h, hf => by
    obtain ⟨g, rfl⟩ : ∃ g, f = g + 1 := ⟨f - 1, by omega⟩
    have ht := h t (by simp)
    have hts : ∀ u ∈ ts, VTok u := fun u hu => h u (by simp [hu])
    obtain ⟨s1, s2⟩ := sep_skip (o := o) ht (joinL (endR t) ts)
    obtain ⟨x, q, e, h1, h2, hx⟩ := pr_head ht
    have hb : isRun t.kind → nr (joinL (endR t) ts) := fun hr => by rw [endR_run.2 hr]; exact nr_join hts
    have hd : prTok t ++ joinL (endR t) ts = x :: (q ++ joinL (endR t) ts) := by rw [e]; rfl
    have hw := pr_own ht hd hb
    have hl : (joinL (endR t) ts).length < g := by
      have : (joinL o (t :: ts)).length = (sepB o t).length + ((prTok t).length + (joinL (endR t) ts).length) := by
        show (sepB o t ++ (prTok t ++ joinL (endR t) ts)).length = _
        rw [List.length_append, List.length_append]
      rw [e, List.length_cons] at this
      omega
    obtain ⟨us, u1, u2⟩ := scan_join ts (endR t) (p + (sepB o t).length + (prTok t).length) g hts hl
    refine ⟨⟨t, p + (sepB o t).length, p + (sepB o t).length + (prTok t).length⟩ :: us, ?_, by rw [List.map_cons, u2]⟩
    show scanF (g + 1) p (sepB o t ++ (prTok t ++ joinL (endR t) ts)) = _
    rw [scanF_tok (r := q ++ joinL (endR t) ts) (x := x) (by rw [s1, s2, hd]) hw, s1, u1]
/-! A missing separator. -/
theorem mapInt_any (k : Int) (n : Nat) (e : Except Int Int) : (∃ c, mapInt k n e = .error c) ∨ ∃ t, mapInt k n e = .ok (t, n) := by
  cases e with
  | error c => exact .inl ⟨c, rfl⟩
  | ok v => exact .inr ⟨_, rfl⟩
theorem mapTxt_any (k : Int) (n : Nat) (e : Except Int Src) : (∃ c, mapTxt k n e = .error c) ∨ ∃ t, mapTxt k n e = .ok (t, n) := by
  cases e with
  | error c => exact .inl ⟨c, rfl⟩
  | ok v => exact .inr ⟨_, rfl⟩
theorem merge_one {t : BTok} (h : VTok t) (hr : isRun t.kind) (w b : Src) (hw : ∀ c ∈ w, regular c = true) (hb : nr b) :
    (∃ c, one (prTok t ++ (w ++ b)) = .error c) ∨ ∃ u, one (prTok t ++ (w ++ b)) = .ok (u, (prTok t).length + w.length) := by
  have app : ∀ {l : Src}, (∀ c ∈ l, regular c = true) → run (l ++ (w ++ b)) = l ++ w := fun hl => by
    rw [← List.append_assoc]
    refine run_ext (fun c hc => ?_) hb
    rcases List.mem_append.1 hc with h1 | h1
    · exact hl c h1
    · exact hw c h1
  cases h with
  | int n h1 h2 =>
    obtain ⟨x, r, e, hx, hr⟩ := itoa_shape n
    have ha := app hr
    show (∃ c, one (Lib.itoa n ++ (w ++ b)) = .error c) ∨ ∃ u, one (Lib.itoa n ++ (w ++ b)) = .ok (u, (Lib.itoa n).length + w.length)
    rw [e] at ha ⊢
    rw [List.cons_append] at ha ⊢
    rw [one_cons, if_pos hx, ha, ← List.length_append]
    exact mapInt_any _ _ _
  | name s h0 h1 h2 =>
    have ha := app (prName_regular s)
    show (∃ c, one (47 :: (prName s ++ (w ++ b))) = .error c) ∨ ∃ u, one (47 :: (prName s ++ (w ++ b))) = .ok (u, (47 :: prName s).length + w.length)
    rw [one_cons, if_neg (by decide), if_neg (by decide), if_pos (by decide), ha, show (47 :: prName s).length + w.length = 1 + (prName s ++ w).length by rw [List.length_cons, List.length_append]; omega]
    exact mapTxt_any _ _ _
  | text s h => exact absurd hr (notRun (.inl rfl))
  | ref n h1 h2 =>
    obtain ⟨y, r, e0, _, hr⟩ := itoa_shape n
    have ha := app hr
    show (∃ c, one (64 :: (Lib.itoa n ++ (w ++ b))) = .error c) ∨ ∃ u, one (64 :: (Lib.itoa n ++ (w ++ b))) = .ok (u, (64 :: Lib.itoa n).length + w.length)
    rw [one_cons, if_neg (by decide), if_neg (by decide), if_neg (by decide), if_pos (by decide), ha, show (64 :: Lib.itoa n).length + w.length = 1 + (Lib.itoa n ++ w).length by rw [List.length_cons, List.length_append]; omega]
    exact mapInt_any _ _ _
  | word s h =>
    obtain ⟨x, r, e, hx, hr⟩ := word_regular h
    have ha := app hr
    show (∃ c, one (s ++ (w ++ b)) = .error c) ∨ ∃ u, one (s ++ (w ++ b)) = .ok (u, s.length + w.length)
    have hx2 := hr x (by rw [e]; simp)
    subst e
    rw [List.cons_append] at ha ⊢
    rw [one_cons, if_neg (by rw [hx]; decide), if_pos hx2, ha, ← List.length_append]
    exact mapTxt_any _ _ _
  | list => exact absurd hr (notRun (.inr (by show (6 : Int) ≤ 6; omega)))
  | listEnd => exact absurd hr (notRun (.inr (by show (6 : Int) ≤ 7; omega)))
  | dict => exact absurd hr (notRun (.inr (by show (6 : Int) ≤ 8; omega)))
  | dictEnd => exact absurd hr (notRun (.inr (by show (6 : Int) ≤ 9; omega)))
theorem start_regular {t : BTok} (h : VTok t) (hs : startR t = true) : ∀ c ∈ prTok t, regular c = true := by
  cases h with
  | int n h1 h2 => exact (itoa_shape n).choose_spec.choose_spec.2.2
  | word s h => obtain ⟨x, r, e, hx, hr⟩ := word_regular h; exact hr
  | name s h0 h1 h2 => cases hs
  | text s h => cases hs
  | ref n h1 h2 => cases hs
  | list => cases hs
  | listEnd => cases hs
  | dict => cases hs
  | dictEnd => cases hs
theorem start_end {t : BTok} (h : startR t = true) : endR t = true := by
  unfold startR at h; unfold endR
  simp only [Bool.or_eq_true, decide_eq_true_eq] at h ⊢
  rcases h with h | h
  · exact .inl h
  · exact .inr (.inr (.inr h))
/-- The joined tokens of pre and x, and those behind them without the separator ahead of y. -/
theorem scan_merge (x y : BTok) (post : List BTok) (hx : VTok x) (hy : VTok y) (hpost : ∀ t ∈ post, VTok t) (hex : endR x = true) (hsy : startR y = true) :
    ∀ (pre : List BTok) (o : Bool) (p f : Nat), (∀ t ∈ pre, VTok t) → (joinL o (pre ++ [x]) ++ (prTok y ++ joinL (endR y) post)).length < f →
      (∃ e, scanF f p (joinL o (pre ++ [x]) ++ (prTok y ++ joinL (endR y) post)) = .error e) ∨ ∃ us, scanF f p (joinL o (pre ++ [x]) ++ (prTok y ++ joinL (endR y) post)) = .ok us ∧ us.length < pre.length + 2 + post.length
  | [], o, p, f, _, hf => by
    obtain ⟨g, rfl⟩ : ∃ g, f = g + 1 := ⟨f - 1, by omega⟩
    have e0 : joinL o ([] ++ [x]) ++ (prTok y ++ joinL (endR y) post) = sepB o x ++ (prTok x ++ (prTok y ++ joinL (endR y) post)) := by
      show (sepB o x ++ (prTok x ++ [])) ++ _ = _
      rw [List.append_nil, List.append_assoc]
    rw [e0] at hf ⊢
    rw [start_end hsy] at hf ⊢
    obtain ⟨s1, s2⟩ := sep_skip (o := o) hx (prTok y ++ joinL true post)
    obtain ⟨z, q, e, h1, h2, _⟩ := pr_head hx
    rw [scanF_step, s1, s2]
    have hd : prTok x ++ (prTok y ++ joinL true post) = z :: (q ++ (prTok y ++ joinL true post)) := by rw [e]; rfl
    rcases merge_one hx (endR_run.1 hex) (prTok y) (joinL true post) (start_regular hy hsy) (nr_join hpost) with ⟨c, hc⟩ | ⟨u, hu⟩
    · rw [hd] at hc ⊢
      dsimp only
      rw [hc]
      exact .inl ⟨_, rfl⟩
    · rw [List.length_append, List.length_append, List.length_append] at hf
      have hpos : 0 < (prTok x).length := by rw [e]; simp
      obtain ⟨us, u1, u2⟩ := scan_join post true (p + (sepB o x).length + ((prTok x).length + (prTok y).length)) g hpost (by omega)
      have hdr : (z :: (q ++ (prTok y ++ joinL true post))).drop ((prTok x).length + (prTok y).length) = joinL true post := by
        rw [← hd, ← List.append_assoc, ← List.length_append, List.drop_left]
      rw [hd] at hu ⊢
      dsimp only
      rw [hu]
      dsimp only
      rw [hdr, u1]
      refine .inr ⟨_, rfl, ?_⟩
      have := congrArg List.length u2
      rw [List.length_map] at this
      simp; omega
  | t :: pre, o, p, f, hp, hf => by
    obtain ⟨g, rfl⟩ : ∃ g, f = g + 1 := ⟨f - 1, by omega⟩
    have ht := hp t (by simp)
    have hpre : ∀ u ∈ pre, VTok u := fun u hu => hp u (by simp [hu])
    have e0 : joinL o (t :: pre ++ [x]) ++ (prTok y ++ joinL (endR y) post) = sepB o t ++ (prTok t ++ (joinL (endR t) (pre ++ [x]) ++ (prTok y ++ joinL (endR y) post))) := by
      show (sepB o t ++ (prTok t ++ joinL (endR t) (pre ++ [x]))) ++ _ = _
      rw [List.append_assoc, List.append_assoc]
    rw [e0] at hf ⊢
    obtain ⟨s1, s2⟩ := sep_skip (o := o) ht (joinL (endR t) (pre ++ [x]) ++ (prTok y ++ joinL (endR y) post))
    obtain ⟨z, q, e, h1, h2, _⟩ := pr_head ht
    have hb : isRun t.kind → nr (joinL (endR t) (pre ++ [x]) ++ (prTok y ++ joinL (endR y) post)) := fun hr => by
      rw [endR_run.2 hr]
      have hn := nr_join (ts := pre ++ [x]) fun u hu => by
        rcases List.mem_append.1 hu with h | h
        · exact hpre u h
        · rw [List.mem_singleton] at h; subst h; exact hx
      have hne : joinL true (pre ++ [x]) ≠ [] := by
        cases pre with
        | nil =>
          obtain ⟨z2, q2, e2, _⟩ := pr_head hx
          show sepB true x ++ (prTok x ++ _) ≠ []
          rw [e2]; simp
        | cons t2 pre =>
          obtain ⟨z2, q2, e2, _⟩ := pr_head (hpre t2 (by simp))
          show sepB true t2 ++ (prTok t2 ++ _) ≠ []
          rw [e2]; simp
      cases hj : joinL true (pre ++ [x]) with
      | nil => exact absurd hj hne
      | cons c r => rw [hj] at hn; exact nr_cons (hn c r rfl)
    have hd : prTok t ++ (joinL (endR t) (pre ++ [x]) ++ (prTok y ++ joinL (endR y) post)) = z :: (q ++ (joinL (endR t) (pre ++ [x]) ++ (prTok y ++ joinL (endR y) post))) := by rw [e]; rfl
    have hw := pr_own ht hd hb
    have hl : (joinL (endR t) (pre ++ [x]) ++ (prTok y ++ joinL (endR y) post)).length < g := by
      rw [List.length_append, List.length_append, e, List.length_cons] at hf
      omega
    rw [scanF_tok (r := q ++ (joinL (endR t) (pre ++ [x]) ++ (prTok y ++ joinL (endR y) post))) (x := z) (by rw [s1, s2, hd]) hw, s1]
    rcases scan_merge x y post hx hy hpost hex hsy pre (endR t) (p + (sepB o t).length + (prTok t).length) g hpre hl with ⟨c, hc⟩ | ⟨us, u1, u2⟩
    · rw [hc]; exact .inl ⟨_, rfl⟩
    · rw [u1]
      refine .inr ⟨_, rfl, ?_⟩
      simp; omega
end Tk
end Go.Proofs.YtenhaohooknkfaaDoor
