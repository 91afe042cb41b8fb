/- The walk of flat: the parts of all words. -/
import Derived.Test.YtajmdgkchleipaaLine
import Derived.Deep.DeepMust
namespace Go.Proofs.Ytajmdgkchleipaa
open Go.RowKit Para
structure Wd where
  parts : List Int
  joins : List Int
def wd0 : Wd := ⟨[], []⟩
def wdAt (ws : List Wd) (i : Nat) : Wd := ws.getD i wd0
def partAt (x : Wd) (i : Nat) : Part := ⟨x.parts.getD i 0, if 0 < i then x.joins.getD (i - 1) 0 else 0, decide (i = 0), decide (i + 1 = x.parts.length)⟩
def partsTo (x : Wd) (k : Nat) : List Part := (List.range k).map (partAt x)
def wordParts (x : Wd) : List Part := partsTo x x.parts.length
def flatW (ws : List Wd) : List Part := ws.flatMap wordParts
theorem partsTo_succ (x : Wd) (k : Nat) : partsTo x (k + 1) = partsTo x k ++ [partAt x k] := by simp [partsTo, List.range_succ]
theorem flatW_succ (ws : List Wd) (k : Nat) (h : k < ws.length) : flatW (ws.take (k + 1)) = flatW (ws.take k) ++ wordParts (wdAt ws k) := by
  unfold flatW wdAt; rw [List.take_succ_eq_append_getElem h, List.flatMap_append, List.getD_eq_getElem?_getD, List.getElem?_eq_getElem h]; simp
def pcell (p : Part) : List Value := [.int .i64 p.width, .int .i64 p.join, .bool p.first, .bool p.last]
def pcells (l : List Part) : List Value := l.flatMap pcell
theorem pcells_snoc (l : List Part) (p : Part) : pcells (l ++ [p]) = pcells l ++ pcell p := by simp [pcells]
theorem pcells_length (l : List Part) : (pcells l).length = l.length * 4 := by
  induction l with
  | nil => rfl
  | cons p l ih => simp only [pcells, List.flatMap_cons, List.length_append, List.length_cons] at ih ⊢; rw [ih]; simp [pcell]; omega
theorem pcells_at (l : List Part) (i j : Nat) (hi : i < l.length) (hj : j < 4) : (pcells l)[i * 4 + j]? = (pcell (pt l i))[j]? := by
  induction l generalizing i with
  | nil => simp at hi
  | cons p l ih =>
    cases i with
    | zero =>
      have : pt (p :: l) 0 = p := rfl
      rw [this]
      simp only [pcells, List.flatMap_cons]
      rw [List.getElem?_append_left (by simp [pcell]; omega)]; simp
    | succ i =>
      have e : pt (p :: l) (i + 1) = pt l i := rfl
      rw [e, ← ih i (by simpa using hi)]
      simp only [pcells, List.flatMap_cons]
      rw [List.getElem?_append_right (by simp [pcell]; omega)]
      congr 1; simp [pcell]; omega
theorem parts_of_own {w : World} {B : Nat} {v : Value} {l : List Part} (h : w.ownsRow B 46 4 v l.length (pcells l)) (hn : 0 < l.length) : ∃ g c, v = .slice (some ⟨g, 0, none⟩) l.length c ∧ Parts w g l := by
  obtain ⟨g, cap, rfl, _, hlt⟩ := h.form hn
  have hc : ∀ i j, i < l.length → j < 4 → w.cell? ⟨g, i * 4 + j, none⟩ = (pcell (pt l i))[j]? := by
    intro i j hi hj
    rw [← pcells_at l i j hi hj]
    exact h.cellAt (i * 4 + j) (by omega)
  exact ⟨g, cap, rfl, hlt, fun i hi => hc i 0 hi (by omega), fun i hi => hc i 1 hi (by omega), fun i hi => hc i 2 hi (by omega), fun i hi => hc i 3 hi (by omega)⟩
/-- The words as they lie in memory. -/
structure WordsIn (w : World) (b off : Nat) (ws : List Wd) : Prop where
  lt : b < w.heap.size
  big : ∀ i, i < ws.length → (wdAt ws i).parts.length ≤ 1000000000000000 ∧ (wdAt ws i).joins.length ≤ 1000000000000000
  cell : ∀ i, i < ws.length → ∃ A cA B cB, w.cell? ⟨b, off + i * 2, none⟩ = some (.slice A (wdAt ws i).parts.length cA) ∧ w.cell? ⟨b, off + i * 2 + 1, none⟩ = some (.slice B (wdAt ws i).joins.length cB) ∧
    Sl w (fun _ => True) (.slice A (wdAt ws i).parts.length cA) (ints (wdAt ws i).parts) ∧ Sl w (fun _ => True) (.slice B (wdAt ws i).joins.length cB) (ints (wdAt ws i).joins)
theorem WordsIn.later {w w' : World} {b off : Nat} {ws : List Wd} (h : WordsIn w b off ws) (hb : Below w.heap.size w w') : WordsIn w' b off ws :=
  ⟨Nat.lt_of_lt_of_le h.lt hb.size, h.big, fun i hi => by
    obtain ⟨A, cA, B, cB, h1, h2, h3, h4⟩ := h.cell i hi
    exact ⟨A, cA, B, cB, (hb.cell (p := ⟨b, off + i * 2, none⟩) h.lt).trans h1, (hb.cell (p := ⟨b, off + i * 2 + 1, none⟩) h.lt).trans h2, h3.later hb, h4.later hb⟩⟩
structure WdOk (x : Wd) : Prop where
  p0 : 0 < x.parts.length
  j0 : x.joins.length + 1 = x.parts.length
theorem ePart : ElemK Try.prog 40 46 (.agg #[.int .i64 0, .int .i64 0, .bool false, .bool false]) 4 24 := ElemK.mk_ Try.underlying40 (by kernel_rfl) rfl
/-- What the loops over words and parts hold. -/
def FlatRel (w : World) (l : List Part) (vo : Value) (wr : World) : Prop := wr.ownsRow w.heap.size 46 4 vo l.length (pcells l) ∧ Below w.heap.size w wr
theorem flat_in {w wr w1 : World} {l : List Part} {p : Part} {vo v' : Value} {o1 o2 : Obj} {Wb : Nat} {cs : Array Value} (hr : FlatRel w l vo wr) (hB : Blk wr Wb 33 cs) (hne : vo.ownBlock ≠ some Wb)
    (hown1 : w1.ownsRow w.heap.size 46 4 v' (l.length + 1) (pcells l ++ pcell p)) (hg1 : ((wr.alloc o1).alloc o2).grownBy w1 vo.ownBlock) (hk1 : v'.ownBlock = vo.ownBlock ∨ v'.ownBlock = some ((wr.alloc o1).alloc o2).heap.size) :
    FlatRel w (l ++ [p]) v' w1 ∧ Blk w1 Wb 33 cs ∧ v'.ownBlock ≠ some Wb := by
  obtain ⟨ho, hb⟩ := hr
  refine ⟨⟨by rw [pcells_snoc, List.length_append]; exact hown1, ?_⟩, ((hB.alloc o1).alloc o2).grown hg1 (Ne.symm hne), ?_⟩
  · exact ((hb.alloc hb.size o1).alloc (le_alloc hb.size _) o2).grown hg1 (le_alloc (le_alloc hb.size _) _) fun k hk => (own_lt ho k hk).1
  · rcases hk1 with e | e
    · rw [e]; exact hne
    · rw [e]; have := hB.lt; simp; omega
set_option maxHeartbeats 4000000 in
theorem flat_any (b off c : Nat) (ws : List Wd) (w : World) (hW : WordsIn w b off ws) (hn : ws.length ≤ 128) (hok : ∀ i, i < ws.length → WdOk (wdAt ws i)) (hl : ∀ i, i ≤ ws.length → (flatW (ws.take i)).length ≤ 256) :
    Calls Try.prog 11 #[.slice (some ⟨b, off, none⟩) ws.length c] w fun e w' => ∃ v, e = .returned v ∧ FlatRel w (flatW ws) v w' := by
  have HW := Lib.hid hW
  have HK := Lib.hid hok
  have HLn := Lib.hid hl
  clear hW hok hl
  generalize hnn : ws.length = n at *
  have HN := Lib.hid hnn
  clear hnn
  go_enter Try.func11, Try.ntmps11
  go_wp2
  go_loopw [3, 11] (fun vo vi wr => ∃ j : Nat, j ≤ n ∧ vi = .int .i64 j ∧ FlatRel w (flatW (ws.take j)) vo wr) (fun _ i _ => n - (intOf i).toNat)
  case atStart => exact ⟨0, by omega, rfl, ⟨rfl, .inl ⟨rfl, rfl⟩⟩, Below.refl _ _⟩
  case round =>
    obtain ⟨j, hj, rfl, hrel⟩ := hrel
    by_cases hlt : j < n
    · have hF := hrel
      obtain ⟨A, cA, Bq, cB, h1, h2, h3, h4⟩ := HW.out.cell j (by rw [HN.out]; exact hlt)
      have g1 := (hrel.2.cell (p := ⟨b, off + j * 2, none⟩) HW.out.lt).trans h1
      have g2 := (hrel.2.cell (p := ⟨b, off + j * 2 + 1, none⟩) HW.out.lt).trans h2
      obtain ⟨k0, k1⟩ := HK.out j hlt
      have HS := Lib.hid (flatW_succ ws j (by rw [HN.out]; exact hlt))
      have hle : (flatW (ws.take j)).length + (wdAt ws j).parts.length ≤ 256 := by
        have := HLn.out (j + 1) (by omega)
        rw [HS.out, List.length_append] at this; simpa [wordParts, partsTo] using this
      generalize flatW (ws.take j) = L at *
      generalize hx : wdAt ws j = x at *
      obtain ⟨bP, oP, hA, hblkP, hcP⟩ := h3.plainA (by rw [ints_length]; exact k0)
      subst hA
      have HCP : Hid (∀ wi, Below w.heap.size w wi → ∀ i, i < x.parts.length → wi.cell? ⟨bP, oP + i, none⟩ = some (.int .i64 (x.parts.getD i 0))) := fun wi hb i hi =>
        (hb.cell (p := ⟨bP, oP + i, none⟩) hblkP).trans (hcP i _ (ints_get hi))
      have HCJ : Hid (∀ i, i + 1 < x.parts.length → ∃ bJ oJ, Bq = some ⟨bJ, oJ, none⟩ ∧ bJ < w.heap.size ∧ ∀ wi, Below w.heap.size w wi → wi.cell? ⟨bJ, oJ + i, none⟩ = some (.int .i64 (x.joins.getD i 0))) := fun i hi => by
        obtain ⟨bJ, oJ, hJ, hblkJ, hcJ⟩ := h4.plainA (by rw [ints_length]; omega)
        exact ⟨bJ, oJ, hJ, hblkJ, fun wi hb => (hb.cell (p := ⟨bJ, oJ + i, none⟩) hblkJ).trans (hcJ i _ (ints_get (by omega)))⟩
      generalize hpl : x.parts.length = m at *
      have hjl : x.joins.length ≤ 256 := by omega
      generalize hjj : x.joins.length = mj at *
      have HR := Lib.hid hF
      have HPL := Lib.hid hpl
      clear hF hrel h1 h2 h3 h4 hx hpl hcP hblkP hjj
      go_wp2
      obtain ⟨wo, rfl⟩ : ∃ wo : World, wo = wr := ⟨_, rfl⟩
      go_loopw [3, 6, 7, 8, 18] (fun vo _ _ _ vi wi => ∃ i : Nat, i ≤ m ∧ vi = .int .i64 i ∧ FlatRel w (L ++ partsTo x i) vo wi ∧ Blk wi wo.heap.size 33 #[Value.slice (some ⟨bP, oP, none⟩) m cA, Value.slice Bq mj cB] ∧ vo.ownBlock ≠ some wo.heap.size) (fun _ _ _ _ i _ => m - (intOf i).toNat)
      case atStart =>
        refine ⟨0, by omega, rfl, ?_, Blk.new _ _ _, fun e => by have := (own_lt HR.out.1 _ e).2; omega⟩
        simp only [partsTo, List.range_zero, List.map_nil, List.append_nil]
        exact ⟨HR.out.1.alloc _, HR.out.2.alloc HR.out.2.size _⟩
      case round =>
        obtain ⟨i, hi, rfl, hrel, hB, hne⟩ := hrel
        by_cases him : i < m
        · have c0 := HCP.out wr hrel.2 i him
          have b0 : wr.cell? ⟨wo.heap.size, 0, none⟩ = some (.slice (some ⟨bP, oP, none⟩) m cA) := hB.cell 0
          have b1 : wr.cell? ⟨wo.heap.size, 1, none⟩ = some (.slice Bq mj cB) := hB.cell 1
          have hlt2 : wo.heap.size < wr.heap.size := hB.lt
          have f1 : ((i : Int) == 0) = decide (i = 0) := by rw [Bool.eq_iff_iff]; simp
          have f2 : ((i : Int) == (m : Int) - 1) = decide (i + 1 = m) := by rw [Bool.eq_iff_iff]; simp; omega
          have HPa : Hid (pcell (partAt x i) = [.int .i64 (x.parts.getD i 0), .int .i64 (if 0 < i then x.joins.getD (i - 1) 0 else 0), .bool (decide (i = 0)), .bool (decide (i + 1 = m))]) := by
            unfold Hid pcell partAt; rw [HPL.out]
          generalize x.parts.getD i 0 = pw at *
          have hlen : (L ++ partsTo x i).length ≤ 256 := by simp [partsTo]; omega
          generalize hLL : L ++ partsTo x i = LL at *
          have HLL := Lib.hid hLL
          have HB := Lib.hid hB
          have HF := Lib.hid hrel
          have HNe := Lib.hid hne
          clear hB hrel hne hLL
          by_cases h0 : 0 < i
          · obtain ⟨bJ, oJ, hJ, hbJ, hcJ⟩ := HCJ.out (i - 1) (by omega)
            have cj := hcJ wr HF.out.2
            have hbJ2 : bJ < wr.heap.size := Nat.lt_of_lt_of_le hbJ HF.out.2.size
            rw [if_pos h0] at HPa
            generalize x.joins.getD (i - 1) 0 = pj at *
            generalize decide (i = 0) = bf at *
            generalize decide (i + 1 = m) = bl at *
            rw [hJ] at b1
            clear hcJ hJ
            go_wp2_with (at_builtin; go_must (refine wpList_pushk ePart rfl (.tmp 42) (.tmp 44) rfl w.heap.size u3 LL.length _ rfl ((HF.out.1.alloc _).alloc _) ⟨wr.heap.size + 1, 0, none⟩ 1 [.int .i64 pw, .int .i64 pj, .bool bf, .bool bl] rfl rfl (news_new _ _ _ _ (by simp)) (by simp [Value.oneCell']) (by omega) (by omega) (by omega) (le_alloc (le_alloc HF.out.2.size _) _) ?_; intro v' w1 hown1 hg1 hk1))
            go_roundw
            case rel =>
              rw [← HPa.out] at hown1
              obtain ⟨r1, r2, r3⟩ := flat_in HF.out HB.out HNe.out hown1 hg1 hk1
              exact ⟨i + 1, by omega, by go_num, by rw [partsTo_succ, ← List.append_assoc, HLL.out]; exact r1, r2, r3⟩
            case measure => simp [intOf]; omega
          · rw [if_neg h0] at HPa
            generalize decide (i = 0) = bf at *
            generalize decide (i + 1 = m) = bl at *
            go_wp2_with (at_builtin; go_must (refine wpList_pushk ePart rfl (.tmp 42) (.tmp 44) rfl w.heap.size u3 LL.length _ rfl ((HF.out.1.alloc _).alloc _) ⟨wr.heap.size + 1, 0, none⟩ 1 [.int .i64 pw, .int .i64 0, .bool bf, .bool bl] rfl rfl (news_new _ _ _ _ (by simp)) (by simp [Value.oneCell']) (by omega) (by omega) (by omega) (le_alloc (le_alloc HF.out.2.size _) _) ?_; intro v' w1 hown1 hg1 hk1))
            go_roundw
            case rel =>
              rw [← HPa.out] at hown1
              obtain ⟨r1, r2, r3⟩ := flat_in HF.out HB.out HNe.out hown1 hg1 hk1
              exact ⟨i + 1, by omega, by go_num, by rw [partsTo_succ, ← List.append_assoc, HLL.out]; exact r1, r2, r3⟩
            case measure => simp [intOf]; omega
        · obtain rfl : i = m := by omega
          have HF := Lib.hid hrel
          clear hrel hB hne
          go_wp2
          go_roundw
          case rel => exact ⟨j + 1, by omega, by go_num, by rw [HS.out, wordParts, HPL.out]; exact HF.out⟩
          case measure => simp [intOf]; omega
    · obtain rfl : j = n := by omega
      rw [List.take_of_length_le (by rw [HN.out]; exact Nat.le_refl _)] at hrel
      go_wp2
      go_ret
      exact ⟨_, rfl, hrel⟩
end Go.Proofs.Ytajmdgkchleipaa
