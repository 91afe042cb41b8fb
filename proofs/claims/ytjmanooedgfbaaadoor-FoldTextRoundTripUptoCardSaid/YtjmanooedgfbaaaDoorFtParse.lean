/- The walk of Parse. -/
import Derived.Test.YtjmanooedgfbaaaDoorFtSml
import Derived.Test.YtjmanooedgfbaaaDoorTailHeld
namespace Go.Proofs.YtjmanooedgfbaaaDoor
open Go.RowKit
theorem step_pushk {P : Program} {w : World} {ops : Array Oper} {o : Oper} {a : Act} {K : Act → World → Prop} {Q : Exit → Act → World → Prop} {E : Prop} {t e : TypeId} {z : Value} {size bytes : Nat} (T : ElemK P t e z size bytes) (hgd : o.guard = none) (s x : Operand)
    (ho : o.op = .call { callee := .builtin .append, args := #[s, x], argTypes := #[t, t] })
    (base : Nat) (v : Value) (n : Nat) (xs : List Value) (hs : a.eval s = v) (hown : w.ownsRow base e size v n xs)
    (ad : Addr) (c : Nat) (news : List Value) (hx : a.eval x = .slice (some ad) 1 c) (hl : news.length = 1 * size) (hu : ∀ j u, news[j]? = some u → w.cell? (ad.add j) = some u) (h1 : ∀ u ∈ news, u.oneCell' = true) (hbytes : (n + 1) * bytes ≤ 140737488355328) (hpos : 0 < bytes) (hsz : 0 < size) (hbase : base ≤ w.heap.size)
    (h : ∀ g cap w', w'.ownsRow base e size (.slice (some ⟨g, 0, none⟩) (n + 1) cap) (n + 1) (xs ++ news) → w.grownBy w' v.ownBlock → (some g = v.ownBlock ∨ g = w.heap.size) → K (a.put o.dst (.slice (some ⟨g, 0, none⟩) (n + 1) cap)) w') :
    if Region.wanted o (yielded ops a.tmps) = true then Oper.wp P o a w K Q else E := by
  have hw : Region.wanted o (yielded ops a.tmps) = true := by simp [Region.wanted, hgd]
  rw [if_pos hw]
  obtain ⟨i, h2, h3, h4, h5⟩ := T.hi
  have hlen : n + 1 ≤ maxLen := by
    have := Nat.le_mul_of_pos_right (n + 1) hpos
    unfold maxLen; omega
  obtain ⟨v', w', hrun, a1, a2, _, a4⟩ := run_append_own_at (P := P) w base t o.type e i z size bytes T.ht h2 h3 h4 h5 T.hz hsz v n xs hown ad 1 c news hl hu h1 hlen hbytes hbase
  unfold Oper.wp execOp
  simp only [ho, resolve, invoke, builtin, Sem.run_bind, Sem.run_pure, Result.andThen_ok, List.map_toArray, List.map_cons, List.map_nil, hs, hx, hrun]
  have hg : ∃ g cap, v' = .slice (some ⟨g, 0, none⟩) (n + 1) cap := by
    rcases a1.2 with ⟨_, h0⟩ | ⟨g, cap, cur, hv, _⟩
    · omega
    · exact ⟨g, cap, hv⟩
  obtain ⟨g, cap, rfl⟩ := hg
  exact h g cap w' a1 a2 (by simpa [Value.ownBlock] using a4)
theorem ft_low {w : World} {base g : Nat} {e : TypeId} {size n : Nat} {v : Value} {xs : List Value} (h : w.ownsRow base e size v n xs) (hg : g < base) : some g ≠ v.ownBlock := fun e' => by have := (own_lt h g e'.symm).1; omega
theorem scells_add (l : List Step) (f : Step) : scells (l ++ [f]) = scells l ++ scell f := by simp [scells]
abbrev S3 (w : World) (g : Nat) (a b c : Value) : Prop := Blk w g 24 #[a, b, c]
section
variable {w w0 : World} {g : Nat} {a b c : Value}
theorem s3_cell0 (h : S3 w g a b c) : w.cell? ⟨g, 0, none⟩ = some a := (Blk.cell h 0).trans rfl
theorem s3_cell1 (h : S3 w g a b c) : w.cell? ⟨g, 1, none⟩ = some b := (Blk.cell h 1).trans rfl
theorem s3_cell2 (h : S3 w g a b c) : w.cell? ⟨g, 2, none⟩ = some c := (Blk.cell h 2).trans rfl
theorem s3_put (h : S3 w g a b c) (x y z : Value) : S3 (((w.setCell ⟨g, 0, none⟩ x).setCell ⟨g, 1, none⟩ y).setCell ⟨g, 2, none⟩ z) g x y z := ((h.put 0 x).put 1 y).put 2 z
theorem s3_below {B : Nat} (h : Below B w0 w) {g : Nat} (x y z : Value) (hg : B ≤ g := by omega) : Below B w0 (((w.setCell ⟨g, 0, none⟩ x).setCell ⟨g, 1, none⟩ y).setCell ⟨g, 2, none⟩ z) :=
  ((h.setCell (p := ⟨g, 0, none⟩) hg x).setCell (p := ⟨g, 1, none⟩) hg y).setCell (p := ⟨g, 2, none⟩) hg z
end
def ParseR (r : PRes) (w : World) (e : Ending) (w' : World) : Prop := Below w.heap.size w w' ∧ match r with
  | .bad => e = .returned (.tuple #[.agg #[.int .i64 0, .int .i64 0, .slice none 0 0], .int .i64 5])
  | .err c => e = .returned (.tuple #[.agg #[.int .i64 0, .int .i64 0, .slice none 0 0], .int .i64 c])
  | .ok C R l => ∃ v, e = .returned (.tuple #[.agg #[.int .i64 (C : Int), .int .i64 (R : Int), v], .int .i64 0]) ∧ Sv w' v l
theorem spl_len : ∀ s, (spl s).length ≤ s.length + 1
  | [] => Nat.le_refl _
  | c :: r => by
    have ih := spl_len r
    rw [spl]
    split
    · simp only [List.length_cons]; omega
    · split
      · simp
      · rename_i h; rw [h] at ih; simp only [List.length_cons] at ih ⊢; omega
theorem wstrs_at (ws : List (List UInt8)) (j : Nat) (h : j < ws.length) : (wstrs ws).toArray[j]? = some (.string ⟨(ws[j]).toArray⟩) := by simp [wstrs, h]
set_option maxRecDepth 100000 in
set_option maxHeartbeats 16000000 in
theorem parse_any (S : ByteArray) (m : Int) (w : World) (hs : S.size < 4294967281) (hm : w.cell? ⟨0, 0, none⟩ = some (.int .i64 m)) :
    Calls Tryd.prog 6 #[.string S] w (ParseR (parseT S.data.toList) w) := by
  have hw0 : 0 < w.heap.size := by
    rcases Nat.eq_zero_or_pos w.heap.size with h | h
    · simp [World.cell?, Array.getElem?_eq_none (show w.heap.size ≤ 0 by omega)] at hm
    · exact h
  have HSp : Hid (∀ W, Below w.heap.size w W → Calls Tryd.prog 15 #[.string S, .string ⟨#[32]⟩] W fun e w' => e = .returned (.slice (some ⟨W.heap.size, 0, none⟩) (spl S.data.toList).length (spl S.data.toList).length) ∧ w' = W.alloc (.cells (wstrs (spl S.data.toList)).toArray 9)) := fun W hW => split_any S m W hs ((hW.cell (p := ⟨0, 0, none⟩) hw0).trans hm)
  have HChk : Hid (∀ (C R : Int) (v : Value) (l : List Step) (W : World), Sv W v l → Calls Tryd.prog 10 #[.agg #[.int .i64 C, .int .i64 R, v]] W (ErrPost (chk C R l) W)) := fun C R v l W h => check_any C R v l W h
  have hne := spl_ne S.data.toList
  have hsl := spl_len S.data.toList
  rw [show S.data.toList.length = S.size by simp] at hsl
  have HR : Hid (parseT S.data.toList = parseW (spl S.data.toList)) := rfl
  generalize spl S.data.toList = WS at *
  generalize parseT S.data.toList = RR at *
  clear hm
  cases WS with
  | nil => exact absurd rfl hne
  | cons h rest =>
  clear hne
  have hlen : (h :: rest).length = rest.length + 1 := rfl
  rw [hlen] at hsl
  rw [hlen] at HSp
  have HB0 := Lib.hid (Blk.new w 24 #[.int .i64 0, .int .i64 0, .slice none 0 0])
  have HBl0 := Lib.hid ((Below.refl w.heap.size w).alloc (Nat.le_refl _) (.cells #[.int .i64 0, .int .i64 0, .slice none 0 0] 24))
  go_enter Tryd.func6, Tryd.ntmps6
  go_wp2_with fail
  refine (HSp.out _ HBl0.out).mono ?_
  rintro e w' ⟨rfl, rfl⟩
  have HBl1 := Lib.hid (HBl0.out.alloc (by simp) (.cells (wstrs (h :: rest)).toArray 9))
  have HB1 := Lib.hid (Blk.alloc HB0.out (.cells (wstrs (h :: rest)).toArray 9))
  have hww := Blk.new (w.alloc (.cells #[.int .i64 0, .int .i64 0, .slice none 0 0] 24)) 9 (wstrs (h :: rest)).toArray
  rw [show (w.alloc (.cells #[.int .i64 0, .int .i64 0, .slice none 0 0] 24)).heap.size = w.heap.size + 1 by simp] at hww ⊢
  have HWs := Lib.hid hww
  clear HB0 HBl0 HSp hww
  generalize (w.alloc (.cells #[.int .i64 0, .int .i64 0, .slice none 0 0] 24)).alloc (.cells (wstrs (h :: rest)).toArray 9) = w1 at *
  have hcap : rest.length + 1 ≤ 9223372036854775807 := by omega
  by_cases h9 : 8 < rest.length
  · have hR : Hid (RR = .bad) := by have := HR.out; unfold parseW at this; rw [if_pos (by simp; omega)] at this; exact this
    have g9 : decide ((9 : Int) < (rest.length : Int) + 1) = true := by simp; omega
    have z0 := s3_cell0 HB1.out
    have z1 := s3_cell1 HB1.out
    have z2 := s3_cell2 HB1.out
    have zf := fun k => Blk.frozen HB1.out k
    have zl := Blk.lt HB1.out
    go_wp2_with fail
    have hbz := s3_put HB1.out (.int .i64 0) (.int .i64 0) (.slice none 0 0)
    have hbw := s3_below HBl1.out (.int .i64 0) (.int .i64 0) (.slice none 0 0) (g := w.heap.size)
    refine bodyPost_ret (v := .tuple #[.agg #[.int .i64 0, .int .i64 0, .slice none 0 0], .int .i64 5]) ?_ rfl ?_
    · have r0 := s3_cell0 hbz
      have r1 := s3_cell1 hbz
      have r2 := s3_cell2 hbz
      clear hbz hbw
      generalize World.setCell _ _ _ = WW at *
      simp [results, Tryd.results6, go_sem, r0, r1, r2]
    · rw [hR.out]
      exact ⟨hbw, rfl⟩
  have g9 : decide ((9 : Int) < (rest.length : Int) + 1) = false := by simp; omega
  have c0 := (Blk.cell HWs.out 0).trans (wstrs_at (h :: rest) 0 (by simp))
  simp only [List.getElem_cons_zero] at c0
  by_cases h3 : h.length = 3
  case neg =>
    have hR : Hid (RR = .bad) := by
      have := HR.out; unfold parseW at this; rw [if_neg (by simp; omega)] at this
      have e : headP h = none := by
        unfold headP
        split
        · exact absurd rfl h3
        · rfl
      simp only [e] at this; exact this
    have g3 : ((h.length : Int) != 3) = true := by simp; omega
    have z0 := s3_cell0 HB1.out
    have z1 := s3_cell1 HB1.out
    have z2 := s3_cell2 HB1.out
    have zf := fun k => Blk.frozen HB1.out k
    have zl := Blk.lt HB1.out
    go_wp2_with fail
    have hbz := s3_put HB1.out (.int .i64 0) (.int .i64 0) (.slice none 0 0)
    have hbw := s3_below HBl1.out (.int .i64 0) (.int .i64 0) (.slice none 0 0) (g := w.heap.size)
    refine bodyPost_ret (v := .tuple #[.agg #[.int .i64 0, .int .i64 0, .slice none 0 0], .int .i64 5]) ?_ rfl ?_
    · have r0 := s3_cell0 hbz
      have r1 := s3_cell1 hbz
      have r2 := s3_cell2 hbz
      clear hbz hbw
      generalize World.setCell _ _ _ = WW at *
      simp [results, Tryd.results6, go_sem, r0, r1, r2]
    · rw [hR.out]
      exact ⟨hbw, rfl⟩
  obtain ⟨a, x, b, rfl⟩ : ∃ a x b, h = [a, x, b] := by
    match h, h3 with
    | [a, x, b], _ => exact ⟨a, x, b, rfl⟩
  obtain ⟨H0, hH0⟩ : ∃ H0, H0 = (⟨#[a, x, b]⟩ : ByteArray) := ⟨_, rfl⟩
  have hc0 : w1.cell? ⟨w.heap.size + 1, 0, none⟩ = some (.string H0) := by rw [hH0]; exact c0
  have hz : H0.size = 3 := by rw [hH0]; rfl
  have e0 : H0[0]'(by omega) = a := by subst hH0; rfl
  have e1 : H0[1]'(by omega) = x := by subst hH0; rfl
  have e2 : H0[2]'(by omega) = b := by subst hH0; rfl
  clear c0 hH0
  by_cases hx : x = 120
  case neg =>
    have hR : Hid (RR = .bad) := by
      have := HR.out; unfold parseW at this; rw [if_neg (by simp; omega)] at this
      have e : headP [a, x, b] = none := if_neg hx
      simp only [e] at this; exact this
    have gx : ((x.toNat : Int) != 120) = true := by
      have : x.toNat ≠ 120 := fun e => hx (UInt8.toNat_inj.1 e)
      simpa using (by omega : ¬ ((x.toNat : Int) = 120))
    clear HR
    have z0 := s3_cell0 HB1.out
    have z1 := s3_cell1 HB1.out
    have z2 := s3_cell2 HB1.out
    have zf := fun k => Blk.frozen HB1.out k
    have zl := Blk.lt HB1.out
    go_wp2_with fail
    have hbz := s3_put HB1.out (.int .i64 0) (.int .i64 0) (.slice none 0 0)
    have hbw := s3_below HBl1.out (.int .i64 0) (.int .i64 0) (.slice none 0 0) (g := w.heap.size)
    refine bodyPost_ret (v := .tuple #[.agg #[.int .i64 0, .int .i64 0, .slice none 0 0], .int .i64 5]) ?_ rfl ?_
    · have r0 := s3_cell0 hbz
      have r1 := s3_cell1 hbz
      have r2 := s3_cell2 hbz
      clear hbz hbw
      generalize World.setCell _ _ _ = WW at *
      simp [results, Tryd.results6, go_sem, r0, r1, r2]
    · rw [hR.out]
      exact ⟨hbw, rfl⟩
  subst hx
  have gx : (((120 : UInt8).toNat : Int) != 120) = false := rfl
  have HR2 : Hid (RR = match stepsP rest with | some l => if (digV a && digV b) = false then .bad else if chk (digN a) (digN b) l ≠ 0 then .err (chk (digN a) (digN b) l) else .ok (digN a) (digN b) l | none => .bad) := by
    have := HR.out; unfold parseW at this; rw [if_neg (by simp; omega)] at this
    have e : headP [a, 120, b] = some (digN a, digN b, digV a && digV b) := by
      show (if (120 : UInt8) = 120 then some (digN a, digN b, digV a && digV b) else none) = _
      rw [if_pos rfl]
    simp only [e] at this
    rw [this]
    cases stepsP rest <;> rfl
  clear HR h3
  have da := dv_dig (c := a)
  have db := dv_dig (c := b)
  have HDa := Lib.hid da
  have HDb := Lib.hid db
  generalize hdva : dv a = za at *
  generalize hdvb : dv b = zb at *
  have Hda := Lib.hid (digit_any a)
  have Hdb := Lib.hid (digit_any b)
  rw [hdva] at Hda
  rw [hdvb] at Hdb
  clear da db hdva hdvb
  go_wp2_with fail
  refine (Hda.out _).mono ?_
  rintro e w' ⟨rfl, rfl⟩
  go_wp2_with fail
  refine (Hdb.out _).mono ?_
  rintro e w' ⟨rfl, rfl⟩
  clear Hda Hdb
  have hal := (Below.refl w1.heap.size w1).alloc (Nat.le_refl _) (.cells #[.int .i64 za, .int .i64 zb, .slice none 0 0] 24)
  have HBl2 := Lib.hid (HBl1.out.trans (hal.mono HBl1.out.size))
  have HB2 := Lib.hid (Blk.alloc HB1.out (.cells #[.int .i64 za, .int .i64 zb, .slice none 0 0] 24))
  have HW2 := Lib.hid (Blk.alloc HWs.out (.cells #[.int .i64 za, .int .i64 zb, .slice none 0 0] 24))
  have HS2 := Lib.hid (Blk.new w1 24 #[.int .i64 za, .int .i64 zb, .slice none 0 0])
  have hwl1 := Blk.lt HWs.out
  clear hal
  have hrel0 : stepsP [] = some [] := rfl
  have hal2 : w1.heap.size + 1 ≤ (w1.alloc (.cells #[.int .i64 za, .int .i64 zb, .slice none 0 0] 24)).heap.size := by simp
  cases rest with
  | nil =>
    go_wp2_with fail
    go_loopw [11, 12, 13, 14, 58] (fun _ _ _ _ v58 wr => True ∧ ∃ (k : Nat) (l : List Step) (v : Value), k ≤ ([] : List (List UInt8)).length ∧ v58 = .int .i64 k ∧ stepsP (([] : List (List UInt8)).take k) = some l ∧ l.length = k ∧ wr.ownsRow (w1.heap.size + 1) 33 3 v k (scells l) ∧ S3 wr w1.heap.size (.int .i64 za) (.int .i64 zb) v ∧ S3 wr w.heap.size (.int .i64 0) (.int .i64 0) (.slice none 0 0) ∧ Blk wr (w.heap.size + 1) 9 (wstrs ([a, 120, b] :: ([] : List (List UInt8)))).toArray ∧ Below w.heap.size w wr ∧ w1.heap.size + 1 ≤ wr.heap.size) (fun _ _ _ _ v58 _ => ([] : List (List UInt8)).length - (intOf v58).toNat)
    case atStart => exact ⟨trivial, 0, [], .slice none 0 0, Nat.le_refl _, rfl, rfl, rfl, World.ownsRow_nil _ _ _ _, HS2.out, HB2.out, HW2.out, HBl2.out, hal2⟩
    case round =>
      obtain ⟨-, k, l, v, hk, rfl, hst, hll, hown, hsc, hbz, hww, hbl, hsz⟩ := hrel
      have HOw := Lib.hid hown
      have HSc := Lib.hid hsc
      have HBz := Lib.hid hbz
      have HWw := Lib.hid hww
      have HBlz := Lib.hid hbl
      have HStp := Lib.hid hst
      clear hown hsc hbz hww hbl hst HB2 HW2 HS2 HBl2 HBl1 HB1 HWs
      have hk0 : k = 0 := by simpa using hk
      subst hk0
      have hsl2 : stepsP ([]) = some l := by
        have := HStp.out
        rwa [List.take_nil] at this
      have HSvz : Hid (SlM wr (fun k => w1.heap.size + 1 ≤ k) v l.length (scells l)) := by
        have := SlM.of_own HOw.out
        rw [← hll] at this
        exact this.mono fun _ _ h => h.2
      clear HOw HWw HStp
      rw [show ((0 : Nat) : Int) = 0 from rfl]
      clear hll hsl hcap h9 g9 hlen hal2 gx hk hrel0 e0 e1 e2 hz hc0
      have HRl : Hid (RR = if (digV a && digV b) = false then .bad else if chk (digN a) (digN b) l ≠ 0 then .err (chk (digN a) (digN b) l) else .ok (digN a) (digN b) l) := by have := HR2.out; rw [hsl2] at this; exact this
      clear HR2 hsl2
      --@1
      cases hva : digV a with
      | false =>
        have hR : Hid (RR = .bad) := by have := HRl.out; rw [hva, if_pos (by simp)] at this; exact this
        have z0 := s3_cell0 HBz.out
        have z1 := s3_cell1 HBz.out
        have z2 := s3_cell2 HBz.out
        have zf := fun k => Blk.frozen HBz.out k
        have zl := Blk.lt HBz.out
        go_wp2_with fail
        have hbz := s3_put HBz.out (.int .i64 0) (.int .i64 0) (.slice none 0 0)
        have hbw := s3_below HBlz.out (.int .i64 0) (.int .i64 0) (.slice none 0 0) (g := w.heap.size)
        refine bodyPost_ret (v := .tuple #[.agg #[.int .i64 0, .int .i64 0, .slice none 0 0], .int .i64 5]) ?_ rfl ?_
        · have r0 := s3_cell0 hbz
          have r1 := s3_cell1 hbz
          have r2 := s3_cell2 hbz
          clear hbz hbw
          generalize World.setCell _ _ _ = WW at *
          simp [results, Tryd.results6, go_sem, r0, r1, r2]
        · rw [hR.out]
          exact ⟨hbw, rfl⟩
      | true =>
      cases hvb : digV b with
      | false =>
        have hR : Hid (RR = .bad) := by have := HRl.out; rw [hva, hvb, if_pos (by simp)] at this; exact this
        have z0 := s3_cell0 HBz.out
        have z1 := s3_cell1 HBz.out
        have z2 := s3_cell2 HBz.out
        have zf := fun k => Blk.frozen HBz.out k
        have zl := Blk.lt HBz.out
        go_wp2_with fail
        have hbz := s3_put HBz.out (.int .i64 0) (.int .i64 0) (.slice none 0 0)
        have hbw := s3_below HBlz.out (.int .i64 0) (.int .i64 0) (.slice none 0 0) (g := w.heap.size)
        refine bodyPost_ret (v := .tuple #[.agg #[.int .i64 0, .int .i64 0, .slice none 0 0], .int .i64 5]) ?_ rfl ?_
        · have r0 := s3_cell0 hbz
          have r1 := s3_cell1 hbz
          have r2 := s3_cell2 hbz
          clear hbz hbw
          generalize World.setCell _ _ _ = WW at *
          simp [results, Tryd.results6, go_sem, r0, r1, r2]
        · rw [hR.out]
          exact ⟨hbw, rfl⟩
      | true =>
      --@2
      have hR3 : Hid (RR = if chk (digN a) (digN b) l ≠ 0 then .err (chk (digN a) (digN b) l) else .ok (digN a) (digN b) l) := by have := HRl.out; rw [hva, hvb, if_neg (by simp)] at this; exact this
      have ea := HDa.out hva
      have eb := HDb.out hvb
      subst ea
      subst eb
      clear HRl HDa HDb hva hvb
      generalize digN a = CA at *
      generalize digN b = CB at *
      --@3
      have y0 := s3_cell0 HSc.out
      have y1 := s3_cell1 HSc.out
      have y2 := s3_cell2 HSc.out
      obtain ⟨Av, cv, rfl⟩ := SlM.form HSvz.out
      have HSv0 : Hid (Sv wr (.slice Av l.length cv) l) := HSvz.out.mono fun _ _ _ => trivial
      unfold Sv at HSv0
      have HChl := Lib.hid (fun (v : Value) (h : SlM wr (fun _ => True) v l.length (scells l)) => HChk.out (CA : Nat) (CB : Nat) v l wr h)
      generalize hch : chk (CA : Nat) (CB : Nat) l = ch at *
      clear hch HChk
      generalize hnl : l.length = nl at *
      have HNl := Lib.hid hnl
      clear hnl
      --@4
      go_wp2_with fail
      --@41
      refine (HChl.out _ HSv0.out).mono ?_
      --@42
      rintro e w8 ⟨rfl, hb8⟩
      --@5
      have HB8 := Lib.hid (Blk.below HBz.out hb8 (Blk.lt HBz.out))
      have HS8 := Lib.hid (Blk.below HSc.out hb8 (Blk.lt HSc.out))
      have HBl8 := Lib.hid (HBlz.out.trans (hb8.mono HBlz.out.size))
      have HSv8 := Lib.hid (SlM.later HSvz.out hb8)
      clear y0 y1 y2 hb8 HBz HSc HBlz HSvz
      by_cases hc0' : ch = 0
      case neg =>
        have hR : Hid (RR = .err ch) := by have := hR3.out; rw [if_pos hc0'] at this; exact this
        have gc : (ch != 0) = true := by simpa using hc0'
        have z0 := s3_cell0 HB8.out
        have z1 := s3_cell1 HB8.out
        have z2 := s3_cell2 HB8.out
        have zf := fun k => Blk.frozen HB8.out k
        have zl := Blk.lt HB8.out
        go_wp2_with fail
        have hbz := s3_put HB8.out (.int .i64 0) (.int .i64 0) (.slice none 0 0)
        have hbw := s3_below HBl8.out (.int .i64 0) (.int .i64 0) (.slice none 0 0) (g := w.heap.size)
        refine bodyPost_ret (v := .tuple #[.agg #[.int .i64 0, .int .i64 0, .slice none 0 0], .int .i64 ch]) ?_ rfl ?_
        · have r0 := s3_cell0 hbz
          have r1 := s3_cell1 hbz
          have r2 := s3_cell2 hbz
          clear hbz hbw
          generalize World.setCell _ _ _ = WW at *
          simp [results, Tryd.results6, go_sem, r0, r1, r2]
        · rw [hR.out]
          exact ⟨hbw, rfl⟩
      --@6
      subst hc0'
      have hR : Hid (RR = .ok (CA) (CB) l) := by have := hR3.out; rw [if_neg (by simp)] at this; exact this
      have gc : ((0 : Int) != 0) = false := rfl
      have y0 := s3_cell0 HS8.out
      have y1 := s3_cell1 HS8.out
      have y2 := s3_cell2 HS8.out
      have z0 := s3_cell0 HB8.out
      have z1 := s3_cell1 HB8.out
      have z2 := s3_cell2 HB8.out
      have zf := fun k => Blk.frozen HB8.out k
      have zl := Blk.lt HB8.out
      go_wp2_with fail
      have hbz := s3_put HB8.out (.int .i64 (CA : Nat)) (.int .i64 (CB : Nat)) (.slice Av nl cv)
      have hbw := s3_below HBl8.out (.int .i64 (CA : Nat)) (.int .i64 (CB : Nat)) (.slice Av nl cv) (g := w.heap.size)
      refine bodyPost_ret (v := .tuple #[.agg #[.int .i64 (CA : Nat), .int .i64 (CB : Nat), .slice Av nl cv], .int .i64 0]) ?_ rfl ?_
      · have r0 := s3_cell0 hbz
        have r1 := s3_cell1 hbz
        have r2 := s3_cell2 hbz
        clear hbz hbw
        generalize World.setCell _ _ _ = WW at *
        simp [results, Tryd.results6, go_sem, r0, r1, r2]
      · rw [hR.out]
        refine ⟨hbw, _, rfl, ?_⟩
        unfold Sv
        rw [HNl.out]
        exact (((SlM.far HSv8.out (p := ⟨w.heap.size, 0, none⟩) (by show ¬ _ ≤ _; dsimp only; omega) _).far (p := ⟨w.heap.size, 1, none⟩) (by show ¬ _ ≤ _; dsimp only; omega) _).far (p := ⟨w.heap.size, 2, none⟩) (by show ¬ _ ≤ _; dsimp only; omega) _).mono fun _ _ _ => trivial
  | cons r0 rest' =>
    generalize hrr : r0 :: rest' = rest at *
    have hne : ¬ (rest.length = 0) := by rw [← hrr]; simp
    have hne2 : ¬ (rest = []) := by rw [← hrr]; simp
    clear hrr
    have hb1 : (1 : Int) ≤ (rest.length : Int) + 1 := by omega
    have hn9 : rest.length ≤ 8 := by omega
    go_wp2_with fail
    go_loopw [11, 12, 13, 14, 58] (fun _ _ _ _ v58 wr => True ∧ ∃ (k : Nat) (l : List Step) (v : Value), k ≤ rest.length ∧ v58 = .int .i64 k ∧ stepsP (rest.take k) = some l ∧ l.length = k ∧ wr.ownsRow (w1.heap.size + 1) 33 3 v k (scells l) ∧ S3 wr w1.heap.size (.int .i64 za) (.int .i64 zb) v ∧ S3 wr w.heap.size (.int .i64 0) (.int .i64 0) (.slice none 0 0) ∧ Blk wr (w.heap.size + 1) 9 (wstrs ([a, 120, b] :: rest)).toArray ∧ Below w.heap.size w wr ∧ w1.heap.size + 1 ≤ wr.heap.size) (fun _ _ _ _ v58 _ => rest.length - (intOf v58).toNat)
    case atStart => exact ⟨trivial, 0, [], .slice none 0 0, Nat.zero_le _, rfl, rfl, rfl, World.ownsRow_nil _ _ _ _, HS2.out, HB2.out, HW2.out, HBl2.out, hal2⟩
    case round =>
      obtain ⟨-, k, l, v, hk, rfl, hst, hll, hown, hsc, hbz, hww, hbl, hsz⟩ := hrel
      have HOw := Lib.hid hown
      have HSc := Lib.hid hsc
      have HBz := Lib.hid hbz
      have HWw := Lib.hid hww
      have HBlz := Lib.hid hbl
      have HStp := Lib.hid hst
      clear hown hsc hbz hww hbl hst HB2 HW2 HS2 HBl2 HBl1 HB1 HWs
      by_cases hlt : k < rest.length
      · have hla : (k : Int) < (rest.length : Int) := by omega
        have cw : wr.cell? ⟨w.heap.size + 1, 1 + k, none⟩ = some (.string ⟨(rest[k]'hlt).toArray⟩) := by
          have h1 := Blk.cell HWw.out (1 + k)
          have h2 := wstrs_at ([a, 120, b] :: rest) (k + 1) (by simp; omega)
          rw [h1, Nat.add_comm 1 k, h2]
          rfl
        have hwwl := Blk.lt HWw.out
        generalize hwd : rest[k]'hlt = wd at *
        have htk : rest.take (k + 1) = rest.take k ++ [wd] := by rw [List.take_add_one, List.getElem?_eq_getElem hlt, hwd]; rfl
        have HTk := Lib.hid htk
        clear htk
        by_cases hl3 : wd.length = 3
        case neg =>
          have hbad : stepP wd = none := by
            unfold stepP
            split
            · exact absurd rfl hl3
            · rfl
          have hR : Hid (RR = .bad) := by
            have := HR2.out
            rw [stepsP_none rest k hlt (by rw [hwd]; exact hbad)] at this
            exact this
          have gl : ((wd.length : Int) != 3) = true := by simp; omega
          clear hbad hwd HTk HStp HOw
          have z0 := s3_cell0 HBz.out
          have z1 := s3_cell1 HBz.out
          have z2 := s3_cell2 HBz.out
          have zf := fun k => Blk.frozen HBz.out k
          have zl := Blk.lt HBz.out
          go_wp2_with fail
          have hbz := s3_put HBz.out (.int .i64 0) (.int .i64 0) (.slice none 0 0)
          have hbw := s3_below HBlz.out (.int .i64 0) (.int .i64 0) (.slice none 0 0) (g := w.heap.size)
          refine bodyPost_ret (v := .tuple #[.agg #[.int .i64 0, .int .i64 0, .slice none 0 0], .int .i64 5]) ?_ rfl ?_
          · have r0 := s3_cell0 hbz
            have r1 := s3_cell1 hbz
            have r2 := s3_cell2 hbz
            clear hbz hbw
            generalize World.setCell _ _ _ = WW at *
            simp [results, Tryd.results6, go_sem, r0, r1, r2]
          · rw [hR.out]
            exact ⟨hbw, rfl⟩
        obtain ⟨p, q, r, rfl⟩ : ∃ p q r, wd = [p, q, r] := by
          match wd, hl3 with
          | [p, q, r], _ => exact ⟨p, q, r, rfl⟩
        obtain ⟨W0, hW0⟩ : ∃ W0, W0 = (⟨#[p, q, r]⟩ : ByteArray) := ⟨_, rfl⟩
        have hcw : wr.cell? ⟨w.heap.size + 1, 1 + k, none⟩ = some (.string W0) := by rw [hW0]; exact cw
        have hwz : W0.size = 3 := by rw [hW0]; rfl
        have f0 : W0[0]'(by omega) = p := by subst hW0; rfl
        have f1 : W0[1]'(by omega) = q := by subst hW0; rfl
        have f2 : W0[2]'(by omega) = r := by subst hW0; rfl
        clear cw hW0 hl3
        by_cases hr : r = 111 ∨ r = 117
        case neg =>
          have hbad : stepP [p, q, r] = none := by
            show (if (r = 111 ∨ r = 117) ∧ digV q = true ∧ 0 ≤ sideI p then some (⟨sideI p, (digN q : Nat), decide (r = 111)⟩ : Step) else none) = none
            rw [if_neg fun h => hr h.1]
          have hR : Hid (RR = .bad) := by
            have := HR2.out
            rw [stepsP_none rest k hlt (by rw [hwd]; exact hbad)] at this
            exact this
          have gr1 : ((r.toNat : Int) != 111) = true := by
            have : r.toNat ≠ 111 := fun e => hr (.inl (UInt8.toNat_inj.1 e))
            simpa using (by omega : ¬ ((r.toNat : Int) = 111))
          have gr2 : ((r.toNat : Int) != 117) = true := by
            have : r.toNat ≠ 117 := fun e => hr (.inr (UInt8.toNat_inj.1 e))
            simpa using (by omega : ¬ ((r.toNat : Int) = 117))
          clear hbad hwd HTk HStp HOw
          have z0 := s3_cell0 HBz.out
          have z1 := s3_cell1 HBz.out
          have z2 := s3_cell2 HBz.out
          have zf := fun k => Blk.frozen HBz.out k
          have zl := Blk.lt HBz.out
          go_wp2_with fail
          have hbz := s3_put HBz.out (.int .i64 0) (.int .i64 0) (.slice none 0 0)
          have hbw := s3_below HBlz.out (.int .i64 0) (.int .i64 0) (.slice none 0 0) (g := w.heap.size)
          refine bodyPost_ret (v := .tuple #[.agg #[.int .i64 0, .int .i64 0, .slice none 0 0], .int .i64 5]) ?_ rfl ?_
          · have r0 := s3_cell0 hbz
            have r1 := s3_cell1 hbz
            have r2 := s3_cell2 hbz
            clear hbz hbw
            generalize World.setCell _ _ _ = WW at *
            simp [results, Tryd.results6, go_sem, r0, r1, r2]
          · rw [hR.out]
            exact ⟨hbw, rfl⟩
        have dq := dv_dig (c := q)
        have HDq := Lib.hid dq
        have Hdq := Lib.hid (digit_any q)
        have Hsd := Lib.hid (side_any p)
        obtain ⟨zq, hzq⟩ : ∃ zq, zq = dv q := ⟨_, rfl⟩
        rw [← hzq] at Hdq HDq
        clear dq hzq
        have hr1 : r = 111 ∨ r ≠ 111 := Decidable.em _
        rcases hr1 with rfl | hr1
        · have hr2 : (111 : UInt8) = 111 ∨ (111 : UInt8) = 117 := by decide
          clear hr
          go_wp2_with fail
          refine (Hdq.out _).mono ?_
          rintro e w' ⟨rfl, rfl⟩
          go_wp2_with fail
          refine (Hsd.out _).mono ?_
          rintro e w' ⟨rfl, rfl⟩
          clear Hdq Hsd
          have hst0 : stepP [p, q, 111] = (if ((111 : UInt8) = 111 ∨ (111 : UInt8) = 117) ∧ digV q = true ∧ 0 ≤ sideI p then some (⟨sideI p, (digN q : Nat), decide ((111 : UInt8) = 111)⟩ : Step) else none) := rfl
          generalize sideI p = se at *
          cases hvq : digV q with
          | false =>
            have hbad : stepP [p, q, 111] = none := by rw [hst0, if_neg fun h => by rw [hvq] at h; exact absurd h.2.1 (by simp)]
            have hR : Hid (RR = .bad) := by
              have := HR2.out
              rw [stepsP_none rest k hlt (by rw [hwd]; exact hbad)] at this
              exact this
            clear hbad hst0 hwd HTk HStp HOw hvq
            have z0 := s3_cell0 HBz.out
            have z1 := s3_cell1 HBz.out
            have z2 := s3_cell2 HBz.out
            have zf := fun k => Blk.frozen HBz.out k
            have zl := Blk.lt HBz.out
            go_wp2_with fail
            have hbz := s3_put HBz.out (.int .i64 0) (.int .i64 0) (.slice none 0 0)
            have hbw := s3_below HBlz.out (.int .i64 0) (.int .i64 0) (.slice none 0 0) (g := w.heap.size)
            refine bodyPost_ret (v := .tuple #[.agg #[.int .i64 0, .int .i64 0, .slice none 0 0], .int .i64 5]) ?_ rfl ?_
            · have r0 := s3_cell0 hbz
              have r1 := s3_cell1 hbz
              have r2 := s3_cell2 hbz
              clear hbz hbw
              generalize World.setCell _ _ _ = WW at *
              simp [results, Tryd.results6, go_sem, r0, r1, r2]
            · rw [hR.out]
              exact ⟨hbw, rfl⟩
          | true =>
          by_cases hse : 0 ≤ se
          case neg =>
            have hbad : stepP [p, q, 111] = none := by rw [hst0, if_neg fun h => hse h.2.2]
            have hR : Hid (RR = .bad) := by
              have := HR2.out
              rw [stepsP_none rest k hlt (by rw [hwd]; exact hbad)] at this
              exact this
            have hse2 : se < 0 := by omega
            clear hbad hst0 hwd HTk HStp HOw hvq
            have z0 := s3_cell0 HBz.out
            have z1 := s3_cell1 HBz.out
            have z2 := s3_cell2 HBz.out
            have zf := fun k => Blk.frozen HBz.out k
            have zl := Blk.lt HBz.out
            go_wp2_with fail
            have hbz := s3_put HBz.out (.int .i64 0) (.int .i64 0) (.slice none 0 0)
            have hbw := s3_below HBlz.out (.int .i64 0) (.int .i64 0) (.slice none 0 0) (g := w.heap.size)
            refine bodyPost_ret (v := .tuple #[.agg #[.int .i64 0, .int .i64 0, .slice none 0 0], .int .i64 5]) ?_ rfl ?_
            · have r0 := s3_cell0 hbz
              have r1 := s3_cell1 hbz
              have r2 := s3_cell2 hbz
              clear hbz hbw
              generalize World.setCell _ _ _ = WW at *
              simp [results, Tryd.results6, go_sem, r0, r1, r2]
            · rw [hR.out]
              exact ⟨hbw, rfl⟩
          have hse2 : ¬ (se < 0) := by omega
          have hsp : stepP [p, q, 111] = some ⟨se, (digN q : Nat), true⟩ := by rw [hst0, if_pos ⟨by decide, hvq, hse⟩]; rfl
          have eq := HDq.out hvq
          subst eq
          have HSp := Lib.hid hsp
          clear hst0 hsp hvq HDq
          obtain ⟨Av, cv, rfl⟩ := own_form HOw.out
          have y0 := s3_cell0 HSc.out
          have y1 := s3_cell1 HSc.out
          have y2 := s3_cell2 HSc.out
          have yl := Blk.lt HSc.out
          go_upto_region 16 with (fail)
          have hS0 : (fun w' : World => w'.cell? ⟨w1.heap.size, 2, none⟩ = some (.slice Av k cv)) wr.drew := y2
          refine wp_region_tail (fun w' : World => w'.cell? ⟨w1.heap.size, 2, none⟩ = some (.slice Av k cv)) 10 (by kernel_rfl) (by kernel_rfl) hS0 (fun hHeld => ?_)
          refine wpAnyD_take 0 (v := ?_) rfl (by kernel_rfl) (by kernel_rfl) (by kernel_rfl) (fun _ _ _ h => h) hHeld (Or.inl ⟨by rfl, ?_⟩) ?_
          rotate_left
          · intro w' hw'; have h0 := hw'; go_simp; try with_reducible rfl
          try simp only [Act.put, List.setIfInBounds_toArray, List.set_cons_zero, List.set_cons_succ]
          refine wpAnyD_take 1 (v := ?_) rfl (by kernel_rfl) (by kernel_rfl) (by kernel_rfl) (fun _ _ _ h => h) hHeld (Or.inl ⟨by rfl, ?_⟩) ?_
          rotate_left
          · intro w' hw'; have h0 := hw'; go_simp; try with_reducible rfl
          try simp only [Act.put, List.setIfInBounds_toArray, List.set_cons_zero, List.set_cons_succ]
          refine wpAnyD_take 2 (v := ?_) rfl (by kernel_rfl) (by kernel_rfl) (by kernel_rfl) (fun _ _ _ h => h) hHeld (Or.inl ⟨by rfl, ?_⟩) ?_
          rotate_left
          · intro w' hw'; have h0 := hw'; go_simp; try with_reducible rfl
          try simp only [Act.put, List.setIfInBounds_toArray, List.set_cons_zero, List.set_cons_succ]
          refine wpAnyD_take 3 (v := ?_) rfl (by kernel_rfl) (by kernel_rfl) (by kernel_rfl) (fun _ _ _ h => h) hHeld (Or.inl ⟨by rfl, ?_⟩) ?_
          rotate_left
          · intro w' hw'; have h0 := hw'; go_simp; try with_reducible rfl
          try simp only [Act.put, List.setIfInBounds_toArray, List.set_cons_zero, List.set_cons_succ]
          refine wpAnyD_take 4 (v := ?_) rfl (by kernel_rfl) (by kernel_rfl) (by kernel_rfl) (fun _ _ _ h => h) hHeld (Or.inl ⟨by rfl, ?_⟩) ?_
          rotate_left
          · intro w' hw'; have h0 := hw'; go_simp; try with_reducible rfl
          try simp only [Act.put, List.setIfInBounds_toArray, List.set_cons_zero, List.set_cons_succ]
          refine wpAnyD_take 5 (v := ?_) rfl (by kernel_rfl) (by kernel_rfl) (by kernel_rfl) (fun _ _ _ h => h) hHeld (Or.inl ⟨by rfl, ?_⟩) ?_
          rotate_left
          · intro w' hw'; have h0 := hw'; go_simp; try with_reducible rfl
          try simp only [Act.put, List.setIfInBounds_toArray, List.set_cons_zero, List.set_cons_succ]
          refine wpAnyD_take 6 (v := ?_) rfl (by kernel_rfl) (by kernel_rfl) (by kernel_rfl) (fun _ _ _ h => h) hHeld (Or.inl ⟨by rfl, ?_⟩) ?_
          rotate_left
          · intro w' hw'; have h0 := hw'; go_simp; try with_reducible rfl
          try simp only [Act.put, List.setIfInBounds_toArray, List.set_cons_zero, List.set_cons_succ]
          refine wpAnyD_take 7 (v := ?_) rfl (by kernel_rfl) (by kernel_rfl) (by kernel_rfl) (fun _ _ _ h => h) hHeld (Or.inl ⟨by rfl, ?_⟩) ?_
          rotate_left
          · intro w' hw'; have h0 := hw'; go_simp; try with_reducible rfl
          try simp only [Act.put, List.setIfInBounds_toArray, List.set_cons_zero, List.set_cons_succ]
          refine wpAnyD_ready [8] (by kernel_rfl) ?_
          refine AllReadyD.cons rfl (fun K hK => ?_) AllReadyD.nil
          go_simp
          have hS1 : (fun w' : World => w'.cell? ⟨w1.heap.size, 2, none⟩ = some (.slice Av k cv)) (wr.drew.alloc (.cells #[.int .i64 se, .int .i64 (digN q : Nat), .bool true] 33)) := (cell_lt _ _ _ yl).trans y2
          refine hK.out _ _ hS1 (fun hHeld => ?_)
          refine wpAnyD_ready [9] (by kernel_rfl) ?_
          refine AllReadyD.cons rfl (fun K hK => ?_) AllReadyD.nil
          refine step_pushk eStepK rfl (.tmp 93) (.tmp 100) rfl (w1.heap.size + 1) (.slice Av k cv) k _ rfl (World.ownsRow.alloc (World.ownsRow.drew HOw.out) _) ⟨wr.heap.size, 0, none⟩ 1 [.int .i64 se, .int .i64 (digN q : Nat), .bool true] rfl rfl (news_new _ _ _ _ rfl) (by simp [Value.oneCell']) (by omega) (by omega) (by omega) (by simp; omega) ?_
          intro g5 c5 w5 hown5 hgr5 hv5
          have HO5 := Lib.hid hown5
          have HG5 := Lib.hid hgr5
          have hsc5 : S3 w5 w1.heap.size (.int .i64 za) (.int .i64 zb) (.slice Av k cv) := ((Blk.drew HSc.out).alloc _).grown hgr5 (ft_low HOw.out (by omega))
          have q2 := s3_cell2 hsc5
          have qf := Blk.frozen hsc5 2
          have ql := Blk.lt hsc5
          have HSc5 := Lib.hid hsc5
          have HBz5 : Hid (S3 w5 w.heap.size (.int .i64 0) (.int .i64 0) (.slice none 0 0)) := ((Blk.drew HBz.out).alloc _).grown hgr5 (ft_low HOw.out (by omega))
          have HWw5 : Hid (Blk w5 (w.heap.size + 1) 9 (wstrs ([a, 120, b] :: rest)).toArray) := ((Blk.drew HWw.out).alloc _).grown hgr5 (ft_low HOw.out (by omega))
          have hsz5 : wr.heap.size + 1 ≤ w5.heap.size := by have := hgr5.size; simpa using this
          have HBl5 : Hid (Below w.heap.size w w5) := by
            refine ((HBlz.out.drew).alloc (by show _ ≤ wr.heap.size; omega) (.cells #[.int .i64 se, .int .i64 (digN q : Nat), .bool true] 33)).grown hgr5 (by simp; omega) (fun k' hk' => by have := (own_lt HOw.out k' hk').1; omega)
          refine hK.out _ _ q2 (fun hHeld => ?_)
          refine wpAnyD_done (by kernel_rfl) ?_
          simp only [List.drop_succ_cons, List.drop_zero]
          clear hS0 hS1 hHeld hK hsc5 hown5 hgr5 hv5 y0 y1 y2 yl HOw HSc HBz HWw HBlz
          go_wp2_with fail
          go_roundw
          case rel =>
            refine ⟨trivial, k + 1, l ++ [⟨se, (digN q : Nat), true⟩], .slice (some ⟨g5, 0, none⟩) (k + 1) c5, by omega, by go_num, ?_, by simp [hll], ?_, ?_, ?_, ?_, ?_, ?_⟩
            · rw [HTk.out]; exact stepsP_snoc _ _ _ _ HStp.out HSp.out
            · rw [scells_add]
              exact own_setCell HO5.out (p := ⟨w1.heap.size, 2, none⟩) (.inl (by show w1.heap.size < _; omega)) _
            · have := Blk.put HSc5.out 2 (.slice (some ⟨g5, 0, none⟩) (k + 1) c5)
              simpa using this
            · exact Blk.far HBz5.out (p := ⟨w1.heap.size, 2, none⟩) (by show w.heap.size ≠ w1.heap.size; omega) _
            · exact Blk.far HWw5.out (p := ⟨w1.heap.size, 2, none⟩) (by show w.heap.size + 1 ≠ w1.heap.size; omega) _
            · exact HBl5.out.setCell (p := ⟨w1.heap.size, 2, none⟩) (by show w.heap.size ≤ w1.heap.size; omega) _
            · simp; omega
          case measure => simp [intOf]; omega
        obtain rfl : r = 117 := hr.resolve_left hr1
        clear hr1
        · have hr2 : (117 : UInt8) = 111 ∨ (117 : UInt8) = 117 := by decide
          clear hr
          go_wp2_with fail
          refine (Hdq.out _).mono ?_
          rintro e w' ⟨rfl, rfl⟩
          go_wp2_with fail
          refine (Hsd.out _).mono ?_
          rintro e w' ⟨rfl, rfl⟩
          clear Hdq Hsd
          have hst0 : stepP [p, q, 117] = (if ((117 : UInt8) = 111 ∨ (117 : UInt8) = 117) ∧ digV q = true ∧ 0 ≤ sideI p then some (⟨sideI p, (digN q : Nat), decide ((117 : UInt8) = 111)⟩ : Step) else none) := rfl
          generalize sideI p = se at *
          cases hvq : digV q with
          | false =>
            have hbad : stepP [p, q, 117] = none := by rw [hst0, if_neg fun h => by rw [hvq] at h; exact absurd h.2.1 (by simp)]
            have hR : Hid (RR = .bad) := by
              have := HR2.out
              rw [stepsP_none rest k hlt (by rw [hwd]; exact hbad)] at this
              exact this
            clear hbad hst0 hwd HTk HStp HOw hvq
            have z0 := s3_cell0 HBz.out
            have z1 := s3_cell1 HBz.out
            have z2 := s3_cell2 HBz.out
            have zf := fun k => Blk.frozen HBz.out k
            have zl := Blk.lt HBz.out
            go_wp2_with fail
            have hbz := s3_put HBz.out (.int .i64 0) (.int .i64 0) (.slice none 0 0)
            have hbw := s3_below HBlz.out (.int .i64 0) (.int .i64 0) (.slice none 0 0) (g := w.heap.size)
            refine bodyPost_ret (v := .tuple #[.agg #[.int .i64 0, .int .i64 0, .slice none 0 0], .int .i64 5]) ?_ rfl ?_
            · have r0 := s3_cell0 hbz
              have r1 := s3_cell1 hbz
              have r2 := s3_cell2 hbz
              clear hbz hbw
              generalize World.setCell _ _ _ = WW at *
              simp [results, Tryd.results6, go_sem, r0, r1, r2]
            · rw [hR.out]
              exact ⟨hbw, rfl⟩
          | true =>
          by_cases hse : 0 ≤ se
          case neg =>
            have hbad : stepP [p, q, 117] = none := by rw [hst0, if_neg fun h => hse h.2.2]
            have hR : Hid (RR = .bad) := by
              have := HR2.out
              rw [stepsP_none rest k hlt (by rw [hwd]; exact hbad)] at this
              exact this
            have hse2 : se < 0 := by omega
            clear hbad hst0 hwd HTk HStp HOw hvq
            have z0 := s3_cell0 HBz.out
            have z1 := s3_cell1 HBz.out
            have z2 := s3_cell2 HBz.out
            have zf := fun k => Blk.frozen HBz.out k
            have zl := Blk.lt HBz.out
            go_wp2_with fail
            have hbz := s3_put HBz.out (.int .i64 0) (.int .i64 0) (.slice none 0 0)
            have hbw := s3_below HBlz.out (.int .i64 0) (.int .i64 0) (.slice none 0 0) (g := w.heap.size)
            refine bodyPost_ret (v := .tuple #[.agg #[.int .i64 0, .int .i64 0, .slice none 0 0], .int .i64 5]) ?_ rfl ?_
            · have r0 := s3_cell0 hbz
              have r1 := s3_cell1 hbz
              have r2 := s3_cell2 hbz
              clear hbz hbw
              generalize World.setCell _ _ _ = WW at *
              simp [results, Tryd.results6, go_sem, r0, r1, r2]
            · rw [hR.out]
              exact ⟨hbw, rfl⟩
          have hse2 : ¬ (se < 0) := by omega
          have hsp : stepP [p, q, 117] = some ⟨se, (digN q : Nat), false⟩ := by rw [hst0, if_pos ⟨by decide, hvq, hse⟩]; rfl
          have eq := HDq.out hvq
          subst eq
          have HSp := Lib.hid hsp
          clear hst0 hsp hvq HDq
          obtain ⟨Av, cv, rfl⟩ := own_form HOw.out
          have y0 := s3_cell0 HSc.out
          have y1 := s3_cell1 HSc.out
          have y2 := s3_cell2 HSc.out
          have yl := Blk.lt HSc.out
          go_upto_region 16 with (fail)
          have hS0 : (fun w' : World => w'.cell? ⟨w1.heap.size, 2, none⟩ = some (.slice Av k cv)) wr.drew := y2
          refine wp_region_tail (fun w' : World => w'.cell? ⟨w1.heap.size, 2, none⟩ = some (.slice Av k cv)) 10 (by kernel_rfl) (by kernel_rfl) hS0 (fun hHeld => ?_)
          refine wpAnyD_take 0 (v := ?_) rfl (by kernel_rfl) (by kernel_rfl) (by kernel_rfl) (fun _ _ _ h => h) hHeld (Or.inl ⟨by rfl, ?_⟩) ?_
          rotate_left
          · intro w' hw'; have h0 := hw'; go_simp; try with_reducible rfl
          try simp only [Act.put, List.setIfInBounds_toArray, List.set_cons_zero, List.set_cons_succ]
          refine wpAnyD_take 1 (v := ?_) rfl (by kernel_rfl) (by kernel_rfl) (by kernel_rfl) (fun _ _ _ h => h) hHeld (Or.inl ⟨by rfl, ?_⟩) ?_
          rotate_left
          · intro w' hw'; have h0 := hw'; go_simp; try with_reducible rfl
          try simp only [Act.put, List.setIfInBounds_toArray, List.set_cons_zero, List.set_cons_succ]
          refine wpAnyD_take 2 (v := ?_) rfl (by kernel_rfl) (by kernel_rfl) (by kernel_rfl) (fun _ _ _ h => h) hHeld (Or.inl ⟨by rfl, ?_⟩) ?_
          rotate_left
          · intro w' hw'; have h0 := hw'; go_simp; try with_reducible rfl
          try simp only [Act.put, List.setIfInBounds_toArray, List.set_cons_zero, List.set_cons_succ]
          refine wpAnyD_take 3 (v := ?_) rfl (by kernel_rfl) (by kernel_rfl) (by kernel_rfl) (fun _ _ _ h => h) hHeld (Or.inl ⟨by rfl, ?_⟩) ?_
          rotate_left
          · intro w' hw'; have h0 := hw'; go_simp; try with_reducible rfl
          try simp only [Act.put, List.setIfInBounds_toArray, List.set_cons_zero, List.set_cons_succ]
          refine wpAnyD_take 4 (v := ?_) rfl (by kernel_rfl) (by kernel_rfl) (by kernel_rfl) (fun _ _ _ h => h) hHeld (Or.inl ⟨by rfl, ?_⟩) ?_
          rotate_left
          · intro w' hw'; have h0 := hw'; go_simp; try with_reducible rfl
          try simp only [Act.put, List.setIfInBounds_toArray, List.set_cons_zero, List.set_cons_succ]
          refine wpAnyD_take 5 (v := ?_) rfl (by kernel_rfl) (by kernel_rfl) (by kernel_rfl) (fun _ _ _ h => h) hHeld (Or.inl ⟨by rfl, ?_⟩) ?_
          rotate_left
          · intro w' hw'; have h0 := hw'; go_simp; try with_reducible rfl
          try simp only [Act.put, List.setIfInBounds_toArray, List.set_cons_zero, List.set_cons_succ]
          refine wpAnyD_take 6 (v := ?_) rfl (by kernel_rfl) (by kernel_rfl) (by kernel_rfl) (fun _ _ _ h => h) hHeld (Or.inl ⟨by rfl, ?_⟩) ?_
          rotate_left
          · intro w' hw'; have h0 := hw'; go_simp; try with_reducible rfl
          try simp only [Act.put, List.setIfInBounds_toArray, List.set_cons_zero, List.set_cons_succ]
          refine wpAnyD_take 7 (v := ?_) rfl (by kernel_rfl) (by kernel_rfl) (by kernel_rfl) (fun _ _ _ h => h) hHeld (Or.inl ⟨by rfl, ?_⟩) ?_
          rotate_left
          · intro w' hw'; have h0 := hw'; go_simp; try with_reducible rfl
          try simp only [Act.put, List.setIfInBounds_toArray, List.set_cons_zero, List.set_cons_succ]
          refine wpAnyD_ready [8] (by kernel_rfl) ?_
          refine AllReadyD.cons rfl (fun K hK => ?_) AllReadyD.nil
          go_simp
          have hS1 : (fun w' : World => w'.cell? ⟨w1.heap.size, 2, none⟩ = some (.slice Av k cv)) (wr.drew.alloc (.cells #[.int .i64 se, .int .i64 (digN q : Nat), .bool false] 33)) := (cell_lt _ _ _ yl).trans y2
          refine hK.out _ _ hS1 (fun hHeld => ?_)
          refine wpAnyD_ready [9] (by kernel_rfl) ?_
          refine AllReadyD.cons rfl (fun K hK => ?_) AllReadyD.nil
          refine step_pushk eStepK rfl (.tmp 93) (.tmp 100) rfl (w1.heap.size + 1) (.slice Av k cv) k _ rfl (World.ownsRow.alloc (World.ownsRow.drew HOw.out) _) ⟨wr.heap.size, 0, none⟩ 1 [.int .i64 se, .int .i64 (digN q : Nat), .bool false] rfl rfl (news_new _ _ _ _ rfl) (by simp [Value.oneCell']) (by omega) (by omega) (by omega) (by simp; omega) ?_
          intro g5 c5 w5 hown5 hgr5 hv5
          have HO5 := Lib.hid hown5
          have HG5 := Lib.hid hgr5
          have hsc5 : S3 w5 w1.heap.size (.int .i64 za) (.int .i64 zb) (.slice Av k cv) := ((Blk.drew HSc.out).alloc _).grown hgr5 (ft_low HOw.out (by omega))
          have q2 := s3_cell2 hsc5
          have qf := Blk.frozen hsc5 2
          have ql := Blk.lt hsc5
          have HSc5 := Lib.hid hsc5
          have HBz5 : Hid (S3 w5 w.heap.size (.int .i64 0) (.int .i64 0) (.slice none 0 0)) := ((Blk.drew HBz.out).alloc _).grown hgr5 (ft_low HOw.out (by omega))
          have HWw5 : Hid (Blk w5 (w.heap.size + 1) 9 (wstrs ([a, 120, b] :: rest)).toArray) := ((Blk.drew HWw.out).alloc _).grown hgr5 (ft_low HOw.out (by omega))
          have hsz5 : wr.heap.size + 1 ≤ w5.heap.size := by have := hgr5.size; simpa using this
          have HBl5 : Hid (Below w.heap.size w w5) := by
            refine ((HBlz.out.drew).alloc (by show _ ≤ wr.heap.size; omega) (.cells #[.int .i64 se, .int .i64 (digN q : Nat), .bool false] 33)).grown hgr5 (by simp; omega) (fun k' hk' => by have := (own_lt HOw.out k' hk').1; omega)
          refine hK.out _ _ q2 (fun hHeld => ?_)
          refine wpAnyD_done (by kernel_rfl) ?_
          simp only [List.drop_succ_cons, List.drop_zero]
          clear hS0 hS1 hHeld hK hsc5 hown5 hgr5 hv5 y0 y1 y2 yl HOw HSc HBz HWw HBlz
          go_wp2_with fail
          go_roundw
          case rel =>
            refine ⟨trivial, k + 1, l ++ [⟨se, (digN q : Nat), false⟩], .slice (some ⟨g5, 0, none⟩) (k + 1) c5, by omega, by go_num, ?_, by simp [hll], ?_, ?_, ?_, ?_, ?_, ?_⟩
            · rw [HTk.out]; exact stepsP_snoc _ _ _ _ HStp.out HSp.out
            · rw [scells_add]
              exact own_setCell HO5.out (p := ⟨w1.heap.size, 2, none⟩) (.inl (by show w1.heap.size < _; omega)) _
            · have := Blk.put HSc5.out 2 (.slice (some ⟨g5, 0, none⟩) (k + 1) c5)
              simpa using this
            · exact Blk.far HBz5.out (p := ⟨w1.heap.size, 2, none⟩) (by show w.heap.size ≠ w1.heap.size; omega) _
            · exact Blk.far HWw5.out (p := ⟨w1.heap.size, 2, none⟩) (by show w.heap.size + 1 ≠ w1.heap.size; omega) _
            · exact HBl5.out.setCell (p := ⟨w1.heap.size, 2, none⟩) (by show w.heap.size ≤ w1.heap.size; omega) _
            · simp; omega
          case measure => simp [intOf]; omega
      · have hkn : k = rest.length := by omega
        have hlt2 : ¬ ((k : Int) < (rest.length : Int)) := by omega
        have hsl2 : stepsP (rest) = some l := by
          have := HStp.out
          rwa [hkn, List.take_length] at this
        have HSvz : Hid (SlM wr (fun k => w1.heap.size + 1 ≤ k) v l.length (scells l)) := by
          have := SlM.of_own HOw.out
          rw [← hll] at this
          exact this.mono fun _ _ h => h.2
        clear HOw HWw HStp
        clear hll hsl hcap h9 g9 hlen hal2 gx hk hrel0 e0 e1 e2 hz hc0 hne hne2 hb1 hn9 hlt hkn
        have HRl : Hid (RR = if (digV a && digV b) = false then .bad else if chk (digN a) (digN b) l ≠ 0 then .err (chk (digN a) (digN b) l) else .ok (digN a) (digN b) l) := by have := HR2.out; rw [hsl2] at this; exact this
        clear HR2 hsl2
        --@1
        cases hva : digV a with
        | false =>
          have hR : Hid (RR = .bad) := by have := HRl.out; rw [hva, if_pos (by simp)] at this; exact this
          have z0 := s3_cell0 HBz.out
          have z1 := s3_cell1 HBz.out
          have z2 := s3_cell2 HBz.out
          have zf := fun k => Blk.frozen HBz.out k
          have zl := Blk.lt HBz.out
          go_wp2_with fail
          have hbz := s3_put HBz.out (.int .i64 0) (.int .i64 0) (.slice none 0 0)
          have hbw := s3_below HBlz.out (.int .i64 0) (.int .i64 0) (.slice none 0 0) (g := w.heap.size)
          refine bodyPost_ret (v := .tuple #[.agg #[.int .i64 0, .int .i64 0, .slice none 0 0], .int .i64 5]) ?_ rfl ?_
          · have r0 := s3_cell0 hbz
            have r1 := s3_cell1 hbz
            have r2 := s3_cell2 hbz
            clear hbz hbw
            generalize World.setCell _ _ _ = WW at *
            simp [results, Tryd.results6, go_sem, r0, r1, r2]
          · rw [hR.out]
            exact ⟨hbw, rfl⟩
        | true =>
        cases hvb : digV b with
        | false =>
          have hR : Hid (RR = .bad) := by have := HRl.out; rw [hva, hvb, if_pos (by simp)] at this; exact this
          have z0 := s3_cell0 HBz.out
          have z1 := s3_cell1 HBz.out
          have z2 := s3_cell2 HBz.out
          have zf := fun k => Blk.frozen HBz.out k
          have zl := Blk.lt HBz.out
          go_wp2_with fail
          have hbz := s3_put HBz.out (.int .i64 0) (.int .i64 0) (.slice none 0 0)
          have hbw := s3_below HBlz.out (.int .i64 0) (.int .i64 0) (.slice none 0 0) (g := w.heap.size)
          refine bodyPost_ret (v := .tuple #[.agg #[.int .i64 0, .int .i64 0, .slice none 0 0], .int .i64 5]) ?_ rfl ?_
          · have r0 := s3_cell0 hbz
            have r1 := s3_cell1 hbz
            have r2 := s3_cell2 hbz
            clear hbz hbw
            generalize World.setCell _ _ _ = WW at *
            simp [results, Tryd.results6, go_sem, r0, r1, r2]
          · rw [hR.out]
            exact ⟨hbw, rfl⟩
        | true =>
        --@2
        have hR3 : Hid (RR = if chk (digN a) (digN b) l ≠ 0 then .err (chk (digN a) (digN b) l) else .ok (digN a) (digN b) l) := by have := HRl.out; rw [hva, hvb, if_neg (by simp)] at this; exact this
        have ea := HDa.out hva
        have eb := HDb.out hvb
        subst ea
        subst eb
        clear HRl HDa HDb hva hvb
        generalize digN a = CA at *
        generalize digN b = CB at *
        --@3
        have y0 := s3_cell0 HSc.out
        have y1 := s3_cell1 HSc.out
        have y2 := s3_cell2 HSc.out
        obtain ⟨Av, cv, rfl⟩ := SlM.form HSvz.out
        have HSv0 : Hid (Sv wr (.slice Av l.length cv) l) := HSvz.out.mono fun _ _ _ => trivial
        unfold Sv at HSv0
        have HChl := Lib.hid (fun (v : Value) (h : SlM wr (fun _ => True) v l.length (scells l)) => HChk.out (CA : Nat) (CB : Nat) v l wr h)
        generalize hch : chk (CA : Nat) (CB : Nat) l = ch at *
        clear hch HChk
        generalize hnl : l.length = nl at *
        have HNl := Lib.hid hnl
        clear hnl
        --@4
        go_wp2_with fail
        --@41
        refine (HChl.out _ HSv0.out).mono ?_
        --@42
        rintro e w8 ⟨rfl, hb8⟩
        --@5
        have HB8 := Lib.hid (Blk.below HBz.out hb8 (Blk.lt HBz.out))
        have HS8 := Lib.hid (Blk.below HSc.out hb8 (Blk.lt HSc.out))
        have HBl8 := Lib.hid (HBlz.out.trans (hb8.mono HBlz.out.size))
        have HSv8 := Lib.hid (SlM.later HSvz.out hb8)
        clear y0 y1 y2 hb8 HBz HSc HBlz HSvz
        by_cases hc0' : ch = 0
        case neg =>
          have hR : Hid (RR = .err ch) := by have := hR3.out; rw [if_pos hc0'] at this; exact this
          have gc : (ch != 0) = true := by simpa using hc0'
          have z0 := s3_cell0 HB8.out
          have z1 := s3_cell1 HB8.out
          have z2 := s3_cell2 HB8.out
          have zf := fun k => Blk.frozen HB8.out k
          have zl := Blk.lt HB8.out
          go_wp2_with fail
          have hbz := s3_put HB8.out (.int .i64 0) (.int .i64 0) (.slice none 0 0)
          have hbw := s3_below HBl8.out (.int .i64 0) (.int .i64 0) (.slice none 0 0) (g := w.heap.size)
          refine bodyPost_ret (v := .tuple #[.agg #[.int .i64 0, .int .i64 0, .slice none 0 0], .int .i64 ch]) ?_ rfl ?_
          · have r0 := s3_cell0 hbz
            have r1 := s3_cell1 hbz
            have r2 := s3_cell2 hbz
            clear hbz hbw
            generalize World.setCell _ _ _ = WW at *
            simp [results, Tryd.results6, go_sem, r0, r1, r2]
          · rw [hR.out]
            exact ⟨hbw, rfl⟩
        --@6
        subst hc0'
        have hR : Hid (RR = .ok (CA) (CB) l) := by have := hR3.out; rw [if_neg (by simp)] at this; exact this
        have gc : ((0 : Int) != 0) = false := rfl
        have y0 := s3_cell0 HS8.out
        have y1 := s3_cell1 HS8.out
        have y2 := s3_cell2 HS8.out
        have z0 := s3_cell0 HB8.out
        have z1 := s3_cell1 HB8.out
        have z2 := s3_cell2 HB8.out
        have zf := fun k => Blk.frozen HB8.out k
        have zl := Blk.lt HB8.out
        go_wp2_with fail
        have hbz := s3_put HB8.out (.int .i64 (CA : Nat)) (.int .i64 (CB : Nat)) (.slice Av nl cv)
        have hbw := s3_below HBl8.out (.int .i64 (CA : Nat)) (.int .i64 (CB : Nat)) (.slice Av nl cv) (g := w.heap.size)
        refine bodyPost_ret (v := .tuple #[.agg #[.int .i64 (CA : Nat), .int .i64 (CB : Nat), .slice Av nl cv], .int .i64 0]) ?_ rfl ?_
        · have r0 := s3_cell0 hbz
          have r1 := s3_cell1 hbz
          have r2 := s3_cell2 hbz
          clear hbz hbw
          generalize World.setCell _ _ _ = WW at *
          simp [results, Tryd.results6, go_sem, r0, r1, r2]
        · rw [hR.out]
          refine ⟨hbw, _, rfl, ?_⟩
          unfold Sv
          rw [HNl.out]
          exact (((SlM.far HSv8.out (p := ⟨w.heap.size, 0, none⟩) (by show ¬ _ ≤ _; dsimp only; omega) _).far (p := ⟨w.heap.size, 1, none⟩) (by show ¬ _ ≤ _; dsimp only; omega) _).far (p := ⟨w.heap.size, 2, none⟩) (by show ¬ _ ≤ _; dsimp only; omega) _).mono fun _ _ _ => trivial
end Go.Proofs.YtjmanooedgfbaaaDoor
