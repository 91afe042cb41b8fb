/- The text of a layout: what is printed is read, and what is read is what is printed. No program is in sight here. -/
import Derived.Test.YtjmanooedgfbaaaDoorPrint
import Derived.Lib.SplitLaws
namespace Go.Proofs.YtjmanooedgfbaaaDoor
/-- A text cut at spaces. -/
def spl : List UInt8 → List (List UInt8)
  | [] => [[]]
  | c :: r => if c = 32 then [] :: spl r else match spl r with
    | [] => [[c]]
    | w :: ws => (c :: w) :: ws
theorem spl_ne : ∀ s, spl s ≠ []
  | [] => by simp [spl]
  | c :: r => by
    unfold spl
    split
    · simp
    · split <;> simp
theorem index_space : ∀ (b : UInt8) (l : List UInt8), b ≠ 32 → Lib.index (b :: l) [32] = if Lib.index l [32] == -1 then -1 else Lib.index l [32] + 1 := fun b l h => by
  have : ([32] : List UInt8).isPrefixOf (b :: l) = false := by simp [List.isPrefixOf]; exact fun e => h e.symm
  rw [Lib.index, this]
  simp
theorem index_hit0 (l : List UInt8) : Lib.index (32 :: l) [32] = 0 := by
  rw [Lib.index]
  simp [List.isPrefixOf]
theorem split_spl : ∀ s : List UInt8, Lib.split s [32] = spl s
  | [] => by
    unfold Lib.split
    rw [Lib.count_one]
    simp [spl, Lib.splitK]
  | c :: r => by
    have ih := split_spl r
    unfold Lib.split at ih ⊢
    by_cases h : c = 32
    · subst h
      rw [Lib.count_cons_eq, Nat.add_comm, Lib.splitK, index_hit0]
      have e : spl (32 :: r) = [] :: spl r := by rw [spl]; simp
      rw [e, ← ih]
      simp
    · rw [Lib.count_cons_ne _ _ _ h]
      have e : spl (c :: r) = match spl r with | [] => [[c]] | w :: ws => (c :: w) :: ws := by rw [spl]; simp [h]
      rw [e, ← ih]
      cases hk : Lib.count r [32] with
      | zero => simp [Lib.splitK]
      | succ k =>
        have hi := Lib.index_ge r [32]
        rw [Lib.splitK, Lib.splitK, index_space c r h]
        by_cases hx : Lib.index r [32] = -1
        · rw [hx]; simp
        · obtain ⟨n, hn⟩ := Int.eq_ofNat_of_zero_le (show 0 ≤ Lib.index r [32] by omega)
          rw [hn]
          have e1 : ((n : Int) == -1) = false := by simp
          have e2 : ((n : Int) + 1 == -1) = false := by simp; omega
          have e3 : ((n : Int) + 1).toNat = n + 1 := by omega
          simp only [e1, e2, e3, Bool.false_eq_true, if_false, Int.toNat_natCast, Nat.add_zero, List.take_succ_cons, List.length_singleton]
          rw [show n + 1 + 1 = (n + 1) + 1 from rfl, List.drop_succ_cons]
/-- The words with spaces between. -/
def joinW : List (List UInt8) → List UInt8
  | [] => []
  | [w] => w
  | w :: v :: r => w ++ 32 :: joinW (v :: r)
theorem join_spl : ∀ s, joinW (spl s) = s
  | [] => rfl
  | c :: r => by
    have ih := join_spl r
    rw [spl]
    split
    · rename_i h
      subst h
      cases hs : spl r with
      | nil => exact absurd hs (spl_ne r)
      | cons w ws =>
        rw [hs] at ih
        simp only [joinW, List.nil_append]
        rw [ih]
    · cases hs : spl r with
      | nil => exact absurd hs (spl_ne r)
      | cons w ws =>
        rw [hs] at ih
        cases ws with
        | nil => simp only [joinW] at ih ⊢; rw [ih]
        | cons v ws => simp only [joinW] at ih ⊢; rw [List.cons_append, ih]
theorem spl_word (w r : List UInt8) (hw : ∀ c ∈ w, c ≠ 32) : spl (w ++ 32 :: r) = w :: spl r := by
  induction w with
  | nil => rw [List.nil_append, spl, if_pos rfl]
  | cons c w ih =>
    have h1 := hw c List.mem_cons_self
    rw [List.cons_append, spl, if_neg h1, ih fun x hx => hw x (List.mem_cons_of_mem _ hx)]
theorem spl_last (w : List UInt8) (hw : ∀ c ∈ w, c ≠ 32) : spl w = [w] := by
  induction w with
  | nil => rfl
  | cons c w ih =>
    have h1 := hw c List.mem_cons_self
    rw [spl, if_neg h1, ih fun x hx => hw x (List.mem_cons_of_mem _ hx)]
def digV (c : UInt8) : Bool := decide (49 ≤ c.toNat) && decide (c.toNat ≤ 57)
def digN (c : UInt8) : Nat := c.toNat - 48
def sideI (c : UInt8) : Int := if c = 76 then 0 else if c = 82 then 1 else if c = 84 then 2 else if c = 66 then 3 else -1
/-- A step's word. -/
def stepP : List UInt8 → Option Step
  | [a, b, c] => if (c = 111 ∨ c = 117) ∧ digV b = true ∧ 0 ≤ sideI a then some ⟨sideI a, digN b, decide (c = 111)⟩ else none
  | _ => none
def stepsP : List (List UInt8) → Option (List Step)
  | [] => some []
  | w :: r => match stepP w, stepsP r with
    | some f, some l => some (f :: l)
    | _, _ => none
/-- What Parse answers: nothing, or columns, rows and steps. -/
def headP : List UInt8 → Option (Nat × Nat × Bool)
  | [a, x, b] => if x = 120 then some (digN a, digN b, digV a && digV b) else none
  | _ => none
inductive PRes where
  | bad
  | err (e : Int)
  | ok (C R : Nat) (l : List Step)
def parseW (ws : List (List UInt8)) : PRes :=
  if 9 < ws.length then .bad else match ws with
  | [] => .bad
  | h :: r => match headP h, stepsP r with
    | some (C, R, ok), some l => if ok = false then .bad else if chk C R l ≠ 0 then .err (chk C R l) else .ok C R l
    | _, _ => .bad
def parseT (t : List UInt8) : PRes := parseW (spl t)
theorem steps_words : ∀ l : List Step, (∀ j, j < l.length → 0 ≤ (st l j).side ∧ (st l j).side ≤ 3 ∧ 1 ≤ (st l j).line ∧ (st l j).line < 8) → ∀ pre : List UInt8, (∀ c ∈ pre, c ≠ 32) →
    ∃ ws, spl (pre ++ l.flatMap stepText) = pre :: ws ∧ stepsP ws = some l ∧ ws.length = l.length
  | [], _, pre, hp => ⟨[], by rw [List.flatMap_nil, List.append_nil]; exact spl_last pre hp, rfl, rfl⟩
  | f :: l, h, pre, hp => by
    have hf := h 0 (by simp)
    have hf' : 0 ≤ f.side ∧ f.side ≤ 3 ∧ 1 ≤ f.line ∧ f.line < 8 := hf
    obtain ⟨f1, f2, f3, f4⟩ := hf'
    have hl : ∀ j, j < l.length → 0 ≤ (st l j).side ∧ (st l j).side ≤ 3 ∧ 1 ≤ (st l j).line ∧ (st l j).line < 8 := fun j hj => h (j + 1) (by simpa using hj)
    obtain ⟨n, hn⟩ := Int.eq_ofNat_of_zero_le (show 0 ≤ f.line by omega)
    have hn8 : 1 ≤ n ∧ n < 8 := by omega
    have hd : (dgB n).toNat = 48 + n := by unfold dgB; rw [UInt8.toNat_ofNat']; omega
    have hside : sideByte f.side ≠ 32 ∧ sideI (sideByte f.side) = f.side := by
      rcases (show f.side = 0 ∨ f.side = 1 ∨ f.side = 2 ∨ f.side = 3 by omega) with e | e | e | e <;> rw [e] <;> decide
    have hd32 : dgB n ≠ 32 := fun e => by rw [e] at hd; simp at hd; omega
    obtain ⟨ws, e1, e2, e3⟩ := steps_words l hl [sideByte f.side, dgB f.line.toNat, if f.over then 111 else 117] (fun c hc => by
      simp only [List.mem_cons, List.mem_nil_iff, or_false] at hc
      rcases hc with rfl | rfl | rfl
      · exact hside.1
      · rw [hn]; exact hd32
      · split <;> decide)
    refine ⟨[sideByte f.side, dgB f.line.toNat, if f.over then 111 else 117] :: ws, ?_, ?_, by simp [e3]⟩
    · rw [List.flatMap_cons]
      show spl (pre ++ (32 :: ([sideByte f.side, dgB f.line.toNat, if f.over then 111 else 117] ++ l.flatMap stepText))) = _
      rw [spl_word _ _ hp, e1]
    · simp only [stepsP, e2]
      have h1 : digV (dgB f.line.toNat) = true := by rw [hn]; unfold digV; rw [Int.toNat_natCast, hd]; simp; omega
      have h2 : digN (dgB f.line.toNat) = n := by rw [hn]; unfold digN; rw [Int.toNat_natCast, hd]; omega
      have hst0 : ∀ c : UInt8, (c = 111 ∨ c = 117) → stepP [sideByte f.side, dgB f.line.toNat, c] = some ⟨f.side, f.line, decide (c = 111)⟩ := fun c hc => by
        show (if (c = 111 ∨ c = 117) ∧ digV (dgB f.line.toNat) = true ∧ 0 ≤ sideI (sideByte f.side) then some (⟨sideI (sideByte f.side), (digN (dgB f.line.toNat) : Nat), decide (c = 111)⟩ : Step) else none) = _
        rw [if_pos ⟨hc, h1, by rw [hside.2]; exact f1⟩, h2, hside.2, hn]
      have hst : stepP [sideByte f.side, dgB f.line.toNat, if f.over then 111 else 117] = some f := by
        rw [hst0 _ (by cases f.over <;> simp)]
        obtain ⟨s, k, o⟩ := f
        cases o <;> rfl
      rw [hst]
theorem parse_print {C R : Nat} {l : List Step} (hg : Good C R l) : parseT (prText C R l) = .ok C R l := by
  have hdg : ∀ n, 1 ≤ n → n ≤ 8 → (dgB n).toNat = 48 + n := fun n _ _ => by unfold dgB; rw [UInt8.toNat_ofNat']; omega
  have c1 := hg.c1; have c8 := hg.c8; have r1 := hg.r1; have r8 := hg.r8
  have hdC := hdg C hg.c1 hg.c8
  have hdR := hdg R hg.r1 hg.r8
  obtain ⟨ws, e1, e2, e3⟩ := steps_words l (fun j hj => step_at hg hj) [dgB C, 120, dgB R] (fun c hc => by
    simp only [List.mem_cons, List.mem_nil_iff, or_false] at hc
    rcases hc with rfl | rfl | rfl
    · intro e; rw [e] at hdC; simp at hdC; omega
    · decide
    · intro e; rw [e] at hdR; simp at hdR; omega)
  have e0 : spl (prText C R l) = [dgB C, 120, dgB R] :: ws := e1
  unfold parseT parseW
  rw [e0]
  have hln := hg.n8
  rw [if_neg (by simp; omega)]
  have hh : headP [dgB C, 120, dgB R] = some (C, R, true) := by
    show (if (120 : UInt8) = 120 then some (digN (dgB C), digN (dgB R), digV (dgB C) && digV (dgB R)) else none) = _
    rw [if_pos rfl]
    have a1 : digN (dgB C) = C := by unfold digN; rw [hdC]; omega
    have a2 : digN (dgB R) = R := by unfold digN; rw [hdR]; omega
    have a3 : digV (dgB C) = true := by unfold digV; rw [hdC]; simp; omega
    have a4 : digV (dgB R) = true := by unfold digV; rw [hdR]; simp; omega
    rw [a1, a2, a3, a4]; rfl
  simp only [hh, e2]
  rw [if_neg (by simp), if_neg (by rw [good_chk hg]; simp)]
theorem dgB_digN {c : UInt8} (h : digV c = true) : dgB (digN c) = c := by
  unfold digV at h
  simp only [Bool.and_eq_true, decide_eq_true_eq] at h
  unfold dgB digN
  apply UInt8.toNat_inj.1
  rw [UInt8.toNat_ofNat']
  omega
theorem side_byte {a : UInt8} (h : 0 ≤ sideI a) : sideByte (sideI a) = a := by
  unfold sideI at h ⊢
  split
  · rename_i e; rw [e]; rfl
  rename_i h1
  split
  · rename_i e; rw [e]; rfl
  rename_i h2
  split
  · rename_i e; rw [e]; rfl
  rename_i h3
  split
  · rename_i e; rw [e]; rfl
  rename_i h4
  rw [if_neg h1, if_neg h2, if_neg h3, if_neg h4] at h
  omega
theorem stepP_text {w : List UInt8} {f : Step} (h : stepP w = some f) : stepText f = 32 :: w := by
  unfold stepP at h
  split at h
  · split at h
    · rename_i a b c hc
      obtain ⟨h1, h2, h3⟩ := hc
      cases h
      unfold stepText
      simp only [Int.toNat_natCast]
      rw [side_byte h3, dgB_digN h2]
      rcases h1 with rfl | rfl <;> rfl
    · cases h
  · cases h
theorem stepsP_text : ∀ (ws : List (List UInt8)) (l : List Step) (h : List UInt8), stepsP ws = some l → joinW (h :: ws) = h ++ l.flatMap stepText
  | [], l, h, e => by cases e; simp [joinW]
  | w :: r, l, h, e => by
    simp only [stepsP] at e
    split at e
    · rename_i f l' h1 h2
      cases e
      have ih := stepsP_text r l' w h2
      simp only [joinW, ih, List.flatMap_cons, stepP_text h1]
      simp
    · cases e
theorem print_parse {t : List UInt8} {C R : Nat} {l : List Step} (h : parseT t = .ok C R l) : chk C R l = 0 ∧ prText C R l = t := by
  unfold parseT parseW at h
  split at h
  · cases h
  split at h
  · cases h
  rename_i hd r hs
  split at h
  · rename_i C' R' ok l' h1 h2
    split at h
    · cases h
    rename_i hok
    split at h
    · cases h
    rename_i hc
    cases h
    refine ⟨by simpa using hc, ?_⟩
    have hj := join_spl t
    rw [hs, stepsP_text r l hd h2] at hj
    rw [← hj]
    unfold headP at h1
    split at h1
    · split at h1
      · rename_i a x b hx
        cases h1
        have h3 : digV a = true ∧ digV b = true := by simpa using hok
        unfold prText
        rw [dgB_digN h3.1, dgB_digN h3.2, hx]
      · cases h1
    · cases h1
  · cases h
end Go.Proofs.YtjmanooedgfbaaaDoor
