/- The walk of names: the facts that a condition mentions. -/
import Derived.Test.YtonmpealebggoaaGreatDoorPrpBec
namespace Go.Proofs.YtonmpealebggoaaGreatDoor
open Go.RowKit Pr
def snames (l : List Src) : List Value := l.map fun s => Value.string (Bs s)
def namesF : Nat → Cd → List Src
  | 0, _ => []
  | f + 1, c => c.terms.map (·.2) ++ c.kids.flatMap (namesF f)
theorem vc_kids {f : Nat} {c : Cd} (h : VC (f + 1) c) : c.terms.length ≤ 8 ∧ (∀ k ∈ c.kids, VC f k) ∧ (c.kids = [] ∨ c.terms = []) ∧ c.kids.length ≤ 2 := by
  rcases h with ⟨h0, hc⟩ | ⟨h1, a, e, ha⟩ | ⟨h2, a, d, e, ha, hd⟩
  · obtain ⟨hk, -, -, -, -, -, -, h8⟩ := compare_parts hc
    exact ⟨h8, fun k hk2 => (by rw [hk] at hk2; cases hk2), .inl hk, by rw [hk]; simp⟩
  · have e1 : c.terms = [] := by rw [e]; rfl
    have e2 : c.kids = [a] := by rw [e]; rfl
    exact ⟨by rw [e1]; simp, fun k hk => (by
      rw [e2] at hk
      obtain rfl : k = a := by simpa using hk
      exact ha), .inr e1, by rw [e2]; simp⟩
  · have e1 : c.terms = [] := by rw [e]; rfl
    have e2 : c.kids = [a, d] := by rw [e]; rfl
    refine ⟨by rw [e1]; simp, fun k hk => ?_, .inr e1, by rw [e2]; simp⟩
    rw [e2] at hk
    rcases List.mem_cons.1 hk with rfl | hk
    · exact ha
    · obtain rfl : k = d := by simpa using hk
      exact hd
theorem flat_names {f : Nat} (hn : ∀ c, VC f c → (namesF f c).length ≤ 8 * 2 ^ f) : ∀ l : List Cd, (∀ k ∈ l, VC f k) → (l.flatMap (namesF f)).length ≤ l.length * (8 * 2 ^ f)
  | [], _ => by simp
  | x :: r, hl => by
    have a := hn x (hl x (by simp))
    have b := flat_names hn r fun k hk => hl k (by simp [hk])
    rw [List.flatMap_cons, List.length_append, List.length_cons, Nat.succ_mul]
    omega
theorem names_len : ∀ (f : Nat) (c : Cd), VC f c → (namesF f c).length ≤ 8 * 2 ^ f
  | 0, _, h => h.elim
  | f + 1, c, h => by
    obtain ⟨h8, hk, hor, h2⟩ := vc_kids h
    have hp : 8 * 2 ^ (f + 1) = 2 * (8 * 2 ^ f) := by rw [Nat.pow_succ]; omega
    have h1 : 1 ≤ 2 ^ f := Nat.one_le_two_pow
    have key : ∀ l : List Cd, (∀ k ∈ l, VC f k) → (l.flatMap (namesF f)).length ≤ l.length * (8 * 2 ^ f) := by
      intro l hl
      induction l with
      | nil => simp
      | cons x r ih =>
        have a := names_len f x (hl x (by simp))
        have b := ih fun k hk => hl k (by simp [hk])
        rw [List.flatMap_cons, List.length_append, List.length_cons, Nat.succ_mul]
        omega
    have hkk := key c.kids hk
    have hm : c.kids.length * (8 * 2 ^ f) ≤ 2 * (8 * 2 ^ f) := Nat.mul_le_mul_right _ h2
    simp only [namesF, List.length_append, List.length_map]
    rcases hor with e | e
    · rw [e] at hkk ⊢
      simp at hkk ⊢
      omega
    · rw [e]
      simp at hkk ⊢
      omega
/-- An open comparison mentions a name of which nothing is known. -/
theorem sum_none {l : List Ft} : ∀ {ts : List Tm} {a : Int}, sumV l ts a = none → ∃ t ∈ ts, factV l t.2 = none
  | [], _, h => by cases h
  | t :: r, a, h => by
    simp only [sumV] at h
    split at h
    · rename_i e; exact ⟨t, by simp, e⟩
    · obtain ⟨t', h1, h2⟩ := sum_none h
      exact ⟨t', by simp [h1], h2⟩
theorem open_name {l : List Ft} : ∀ (f : Nat) (c : Cd), VC f c → truthF f l c = 2 → ∃ nm ∈ namesF f c, factV l nm = none
  | 0, _, h, _ => h.elim
  | f + 1, c, h, ht => by
    rcases h with ⟨h0, hc⟩ | ⟨h1, a, e, ha⟩ | ⟨h2, a, d, e, ha, hd⟩
    · have e1 : truthF (f + 1) l c = match sumV l c.terms 0 with | none => 2 | some x => if cmpB c.cmp x c.than = true then 1 else 0 := by
        simp only [truthF]
        rw [if_neg (by omega), if_neg (by omega)]
        rfl
      rw [e1] at ht
      split at ht
      · rename_i hs
        obtain ⟨t, h3, h4⟩ := sum_none hs
        exact ⟨t.2, by simp only [namesF]; exact List.mem_append_left _ (List.mem_map.2 ⟨t, h3, rfl⟩), h4⟩
      · split at ht <;> omega
    · have e1 : truthF (f + 1) l c = if truthF f l a = 0 then 1 else if truthF f l a = 1 then 0 else 2 := by rw [e]; rfl
      have ha2 : truthF f l a = 2 := by
        rw [e1] at ht
        rcases truth_cases f l a with h | h | h
        · rw [h] at ht; simp at ht
        · rw [h] at ht; simp at ht
        · exact h
      obtain ⟨nm, h3, h4⟩ := open_name f a ha ha2
      exact ⟨nm, by rw [e]; simp [namesF, Cd.kids, Cd.terms, h3], h4⟩
    · have e1 : truthF (f + 1) l c = if truthF f l a = (if c.kind = 3 then 1 else 0) ∨ truthF f l d = (if c.kind = 3 then 1 else 0) then (if c.kind = 3 then 1 else 0) else if truthF f l a = 2 ∨ truthF f l d = 2 then 2 else truthF f l a := by
        have hk0 : kid c 0 = a := by rw [e]; rfl
        have hk1 : kid c 1 = d := by rw [e]; rfl
        simp only [truthF]
        rw [if_neg (by omega), if_pos h2, hk0, hk1]
      have hor : truthF f l a = 2 ∨ truthF f l d = 2 := by
        rw [e1] at ht
        refine Classical.byContradiction fun hn => ?_
        have hn1 : truthF f l a ≠ 2 := fun h => hn (.inl h)
        have hn2 : truthF f l d ≠ 2 := fun h => hn (.inr h)
        rw [if_neg (show ¬ (truthF f l a = 2 ∨ truthF f l d = 2) from hn)] at ht
        by_cases hc3 : truthF f l a = (if c.kind = 3 then 1 else 0) ∨ truthF f l d = (if c.kind = 3 then 1 else 0)
        · rw [if_pos hc3] at ht
          split at ht <;> omega
        · rw [if_neg hc3] at ht
          exact hn1 ht
      rcases hor with h | h
      · obtain ⟨nm, h3, h4⟩ := open_name f a ha h
        exact ⟨nm, by rw [e]; simp [namesF, Cd.kids, Cd.terms, h3], h4⟩
      · obtain ⟨nm, h3, h4⟩ := open_name f d hd h
        exact ⟨nm, by rw [e]; simp [namesF, Cd.kids, Cd.terms, h3], h4⟩
def NmAt (f : Nat) : Prop := ∀ (c : Cd) (u : V5) (base : Nat) (out : Value) (acc : List Src) (w : World), VC f c → CdV (fun b => b < base) w u c → w.ownsRow base 9 1 out acc.length (snames acc) → base ≤ w.heap.size → acc.length + 8 * 2 ^ f ≤ 100000 →
  Calls Tryz.prog 41 #[u.val, out] w fun e w' => ∃ out', e = .returned out' ∧ w'.ownsRow base 9 1 out' (acc ++ namesF f c).length (snames (acc ++ namesF f c)) ∧ FrS w.heap.size (fun k => out.ownBlock = some k) w w' ∧ ∀ k, out'.ownBlock = some k → out.ownBlock = some k ∨ w.heap.size ≤ k
theorem own_cast {w : World} {base n n' : Nat} {e : TypeId} {v : Value} {xs xs' : List Value} (h : w.ownsRow base e 1 v n xs) (hn : n = n') (hx : xs = xs') : w.ownsRow base e 1 v n' xs' := by subst hn; subst hx; exact h
set_option maxRecDepth 100000 in
set_option maxHeartbeats 16000000 in
theorem names_step (f : Nat) (HI : NmAt f) : NmAt (f + 1) := by
  intro c u base out acc w hvc hu hown hbw hbd
  obtain ⟨h8, hkv, hor, h2⟩ := vc_kids hvc
  have hnl := names_len (f + 1) c hvc
  obtain ⟨tv, dv, vs, rfl, ht, hd, hl, hkid, -, -⟩ := hu.open_
  clear hu hvc
  obtain ⟨k0, ts, cm, n, ks⟩ := c
  dsimp only [Cd.kind, Cd.terms, Cd.cmp, Cd.than, Cd.kids, V5.val] at *
  obtain ⟨tA, tc, rfl⟩ := ht.form
  obtain ⟨dA, dc, rfl⟩ := hd.form
  obtain ⟨oA, oc, rfl⟩ := own_form hown
  have HM := Lib.hid ht
  have HD := Lib.hid hd
  have HL := Lib.hid hl
  have HK := Lib.hid hkid
  have HKv := Lib.hid hkv
  have hol := own_lt hown
  have HOl := Lib.hid hol
  have HB1 := Lib.hid (Blk.new w 25 #[.int .i64 k0, .slice tA ts.length tc, .int .i64 cm, .int .i64 n, .slice dA ks.length dc])
  have HO1 := Lib.hid (own_below hown ((Below.refl w.heap.size w).alloc (Nat.le_refl _) (.cells #[.int .i64 k0, .slice tA ts.length tc, .int .i64 cm, .int .i64 n, .slice dA ks.length dc] 25)))
  have HF1 := Lib.hid ((FrS.refl w.heap.size (fun k => (Value.slice oA acc.length oc).ownBlock = some k) w).alloc (Nat.le_refl _) (.cells #[.int .i64 k0, .slice tA ts.length tc, .int .i64 cm, .int .i64 n, .slice dA ks.length dc] 25))
  have hbd8 : acc.length + ts.length ≤ 100000 := by have := Nat.one_le_two_pow (n := f + 1); omega
  clear ht hd hl hkid hown hkv hol
  generalize htn : ts.length = tn at *
  generalize haN : acc.length = aN at *
  have HN := Lib.hid htn
  have HaN := Lib.hid haN
  clear htn haN
  go_enter Tryz.func41, Tryz.ntmps41
  go_upto_region 1 with (fail)
  have hsz1 : (w.alloc (.cells #[.int .i64 k0, .slice tA tn tc, .int .i64 cm, .int .i64 n, .slice dA ks.length dc] 25)).heap.size = w.heap.size + 1 := by simp
  generalize w.alloc (.cells #[.int .i64 k0, .slice tA tn tc, .int .i64 cm, .int .i64 n, .slice dA ks.length dc] 25) = w1 at *
  obtain ⟨y0, y1, y2, y3, y4⟩ := b5_cells HB1.out
  have yl := HB1.out.lt
  go_wp2_with fail
  go_loopw [1, 6, 12] (fun v1 _ v12 wr => True ∧ ∃ (i N : Nat) (A : Option Addr) (cp : Nat), i ≤ tn ∧ v12 = .int .i64 i ∧ v1 = .slice A N cp ∧ N = aN + i ∧ wr.ownsRow base 9 1 (.slice A N cp) N (snames (acc ++ (ts.take i).map (·.2))) ∧ FrS w.heap.size (fun k => (Value.slice oA aN oc).ownBlock = some k) w wr ∧
      (∀ k, (Value.slice A N cp).ownBlock = some k → (Value.slice oA aN oc).ownBlock = some k ∨ w.heap.size + 1 ≤ k) ∧ Blk wr w.heap.size 25 #[.int .i64 k0, .slice tA tn tc, .int .i64 cm, .int .i64 n, .slice dA ks.length dc] ∧ w.heap.size + 1 ≤ wr.heap.size) (fun _ _ v12 _ => tn - (intOf v12).toNat)
  case atStart => exact ⟨trivial, 0, aN, oA, oc, Nat.zero_le _, rfl, rfl, rfl, by simpa using HO1.out, HF1.out, fun k hk => .inl hk, HB1.out, by omega⟩
  case round =>
    obtain ⟨-, i, N, A, cp, hi, rfl, rfl, hN, hown, hfr, hof, hbk, hszr⟩ := hrel
    have HOr := Lib.hid hown
    have HFr := Lib.hid hfr
    have HOf := Lib.hid hof
    have HBk := Lib.hid hbk
    have HNN := Lib.hid hN
    have hN1 : N ≤ 100000 := by omega
    clear hown hof hN HO1 HF1 HB1 y0 y1 y2 y3 y4 yl
    by_cases hlt : i < tn
    · have t0 : decide ((i : Int) < (tn : Int)) = true := by simp; omega
      obtain ⟨b, off, rfl, hPb, hbl, hcl⟩ := tm_at (by rw [HN.out]; exact HM.out) (by rw [HN.out]; omega)
      obtain ⟨q0, q1⟩ := hcl i (by rw [HN.out]; exact hlt)
      have hkeep : wr.heap[b]? = w.heap[b]? := hfr.block b hbl (fun e => by have := (HOl.out b e).1; omega)
      have q0 : wr.cell? ⟨b, off + i * 2, none⟩ = some (.int .i64 (ts.getD i tm0).1) := (World.cell?_of_block (w := w) (a := ⟨b, off + i * 2, none⟩) hkeep).trans q0
      have q1 : wr.cell? ⟨b, off + i * 2 + 1, none⟩ = some (.string (Bs (ts.getD i tm0).2)) := (World.cell?_of_block (w := w) (a := ⟨b, off + i * 2 + 1, none⟩) hkeep).trans q1
      have hbl2 := Nat.lt_of_lt_of_le hbl hfr.size
      have HTk : Hid (snames (acc ++ (ts.take i).map (·.2)) ++ [.string (Bs (ts.getD i tm0).2)] = snames (acc ++ (ts.take (i + 1)).map (·.2))) := by
        have e : ts.take (i + 1) = ts.take i ++ [ts.getD i tm0] := by rw [List.take_add_one, List.getD_eq_getElem?_getD, List.getElem?_eq_getElem (by rw [HN.out]; exact hlt)]; rfl
        rw [e]
        simp [Hid, snames]
      clear hcl hkeep hfr hbk
      generalize (ts.getD i tm0).1 = xv at *
      generalize Bs (ts.getD i tm0).2 = NM at *
      have HOb := Lib.hid (own_below (own_below HOr.out ((Below.refl wr.heap.size wr).alloc (Nat.le_refl _) (.cells #[.int .i64 xv, .string NM] 80))) ((Below.refl _ _).alloc (Nat.le_refl _) (.cells #[.string NM] 9)))
      have hsa : (wr.alloc (.cells #[.int .i64 xv, .string NM] 80)).heap.size = wr.heap.size + 1 := by simp
      have hwb : base ≤ wr.heap.size := by omega
      go_wp2_with (at_builtin; go_must (refine wpList_push eSt rfl (.tmp 16) (.tmp 19) rfl base (.slice A N cp) N _ rfl HOb.out ⟨wr.heap.size + 1, 0, none⟩ 1 (.string NM) rfl (by have h := (Blk.new (wr.alloc (.cells #[.int .i64 xv, .string NM] 80)) 9 #[.string NM]).cell 0; rw [hsa] at h; exact h) rfl (by omega) (by omega) (by simp; omega) ?_); go_must (intro v' w11 hown11 hgr11 hk11; have HO11 := Lib.hid hown11; have HGr11 := Lib.hid hgr11; have HK11 := Lib.hid hk11; obtain ⟨A11, c11, rfl⟩ := own_form hown11; clear hown11 hgr11 hk11))
      have hfn : FrS w.heap.size (fun k => (Value.slice oA aN oc).ownBlock = some k) w w11 := ((HFr.out.alloc (by omega) (.cells #[.int .i64 xv, .string NM] 80)).alloc (by simp; omega) (.cells #[.string NM] 9)).grownB HGr11.out (by simp; omega) (fun k hk => (HOf.out k hk).elim (fun e => .inr e) fun e => .inl (by omega))
      have hbn : Blk w11 w.heap.size 25 #[.int .i64 k0, .slice (some ⟨b, off, none⟩) tn tc, .int .i64 cm, .int .i64 n, .slice dA ks.length dc] := ((HBk.out.alloc (.cells #[.int .i64 xv, .string NM] 80)).alloc (.cells #[.string NM] 9)).grown HGr11.out (fun e => by
        rcases HOf.out _ e.symm with h | h
        · have := (HOl.out _ h).2; omega
        · omega)
      have hon : ∀ k, (Value.slice A11 (N + 1) c11).ownBlock = some k → (Value.slice oA aN oc).ownBlock = some k ∨ w.heap.size + 1 ≤ k := fun k hk => by
        rcases HK11.out with e | e
        · exact HOf.out k (e ▸ hk)
        · rw [e] at hk; injection hk with hk; simp at hk; exact .inr (by omega)
      have hs11 : w.heap.size + 1 ≤ w11.heap.size := by have := HGr11.out.size; simp at this; omega
      have HXn := Lib.hid hfn
      have HXb := Lib.hid hbn
      have HXo := Lib.hid hon
      clear hfn hbn hon
      go_wp2_with fail
      go_roundw
      case rel => exact ⟨trivial, i + 1, N + 1, A11, c11, by omega, by go_num, rfl, by have := HNN.out; omega, by rw [← HTk.out]; exact HO11.out, HXn.out, HXo.out, HXb.out, hs11⟩
      case measure => simp [intOf]; omega
    · have t0 : decide ((i : Int) < (tn : Int)) = false := by simp; omega
      have hitn : i = tn := by omega
      have HOs := Lib.hid (show wr.ownsRow base 9 1 (.slice A N cp) N (snames (acc ++ ts.map (·.2))) by
        have := HOr.out
        rw [hitn, ← HN.out, List.take_length] at this
        exact this)
      have HNs := Lib.hid (show N = (acc ++ ts.map (·.2)).length by rw [HNN.out, hitn, List.length_append, List.length_map, HaN.out, HN.out])
      obtain ⟨y0, y1, y2, y3, y4⟩ := b5_cells HBk.out
      have yl := HBk.out.lt
      have hsm : w.heap.size + 1 ≤ wr.heap.size := hszr
      clear hitn hfr hbk HOr HNN HBk hszr
      generalize wr = wm at *
      have hpw : 8 * 2 ^ (f + 1) = 2 * (8 * 2 ^ f) := by rw [Nat.pow_succ]; omega
      have HFl := Lib.hid (fun j => flat_names (f := f) (names_len f) (ks.take j) fun k hk => HKv.out k (List.mem_of_mem_take hk))
      generalize hW8 : 8 * 2 ^ f = W8 at *
      go_wp2_with fail
      go_loopw [1, 8, 25] (fun v1 _ v25 wz => True ∧ ∃ (j N2 : Nat) (A2 : Option Addr) (cp2 : Nat), j ≤ ks.length ∧ v25 = .int .i64 j ∧ v1 = .slice A2 N2 cp2 ∧ N2 = (acc ++ ts.map (·.2) ++ (ks.take j).flatMap (namesF f)).length ∧ wz.ownsRow base 9 1 (.slice A2 N2 cp2) N2 (snames (acc ++ ts.map (·.2) ++ (ks.take j).flatMap (namesF f))) ∧ FrS w.heap.size (fun k => (Value.slice oA aN oc).ownBlock = some k) w wz ∧
        (∀ k, (Value.slice A2 N2 cp2).ownBlock = some k → (Value.slice oA aN oc).ownBlock = some k ∨ w.heap.size + 1 ≤ k) ∧ w.heap.size + 1 ≤ wz.heap.size) (fun _ _ v25 _ => ks.length - (intOf v25).toNat)
      case atStart => exact ⟨trivial, 0, N, A, cp, Nat.zero_le _, rfl, rfl, by rw [HNs.out]; simp, by simpa using HOs.out, HFr.out, HOf.out, hsm⟩
      case round =>
        obtain ⟨-, j, N2, A2, cp2, hj, rfl, rfl, hN2, hown2, hfr2, hof2, hszz⟩ := hrel
        have HO2 := Lib.hid hown2
        have HF2 := Lib.hid hfr2
        have HOf2 := Lib.hid hof2
        have HN2 := Lib.hid hN2
        clear hown2 hof2 hN2
        by_cases hltj : j < ks.length
        · have hia : (j : Int) < (ks.length : Int) := by omega
          have hts : ts = [] := by
            rcases hor with e | e
            · rw [e] at hltj; simp at hltj
            · exact e
          have hNb : N2 + W8 ≤ 100000 := by
            have h1 := HFl.out j
            have h2' := HN2.out
            have h3 : (ks.take j).length ≤ 1 := by rw [List.length_take]; omega
            have h4 : (ks.take j).length * W8 ≤ 1 * W8 := Nat.mul_le_mul_right _ h3
            have h5 := HaN.out
            rw [hts, List.map_nil, List.append_nil, List.length_append] at h2'
            omega
          have hva : j < vs.length := by have := HL.out; omega
          obtain ⟨b, off, rfl, hPb, hbl, hcl⟩ := v5_at (l := vs) (by rw [HL.out]; exact HD.out) (by omega)
          obtain ⟨q0, q1, q2, q3, q4⟩ := hcl j hva
          have hkeep : wr.heap[b]? = w.heap[b]? := hfr2.block b hbl (fun e => by have := (HOl.out b e).1; omega)
          replace q0 := (World.cell?_of_block (w := w) (a := ⟨b, _, none⟩) hkeep).trans q0
          replace q1 := (World.cell?_of_block (w := w) (a := ⟨b, _, none⟩) hkeep).trans q1
          replace q2 := (World.cell?_of_block (w := w) (a := ⟨b, _, none⟩) hkeep).trans q2
          replace q3 := (World.cell?_of_block (w := w) (a := ⟨b, _, none⟩) hkeep).trans q3
          replace q4 := (World.cell?_of_block (w := w) (a := ⟨b, _, none⟩) hkeep).trans q4
          have hbl2 := Nat.lt_of_lt_of_le hbl hfr2.size
          have hkc : CdV (fun b => b < base) wr (vs[j]'hva) (ks[j]'hltj) := (HK.out j hltj hva).keep hfr2.size fun b hb hlt => hfr2.block b hlt (fun e => by have := (HOl.out b e).1; omega)
          have hvk := HKv.out (ks[j]'hltj) (List.getElem_mem hltj)
          have HTk : Hid (acc ++ ts.map (·.2) ++ (ks.take j).flatMap (namesF f) ++ namesF f (ks[j]'hltj) = acc ++ ts.map (·.2) ++ (ks.take (j + 1)).flatMap (namesF f)) := by
            have e : ks.take (j + 1) = ks.take j ++ [ks[j]'hltj] := by rw [List.take_add_one, List.getElem?_eq_getElem hltj]; rfl
            unfold Hid
            rw [e, List.flatMap_append, ← List.append_assoc]
            congr 1
            rw [List.flatMap_cons, List.flatMap_nil, List.append_nil]
          generalize vs[j]'hva = uj at *
          generalize ks[j]'hltj = cj at *
          have HCj := Lib.hid (HI cj uj base (.slice A2 N2 cp2) (acc ++ ts.map (·.2) ++ (ks.take j).flatMap (namesF f)))
          obtain ⟨ka1, da1, us1, hu1, s1, t1, -⟩ := hkc.open_
          subst hu1
          obtain ⟨B1, m1, rfl⟩ := s1.form
          obtain ⟨B3, m3, rfl⟩ := t1.form
          dsimp only [V5.val] at q0 q1 q2 q3 q4 HCj
          have hla : Below wr.heap.size wr (wr.alloc (.cells #[.int .i64 cj.kind, .slice B1 cj.terms.length m1, .int .i64 cj.cmp, .int .i64 cj.than, .slice B3 cj.kids.length m3] 25)) := (Below.refl _ _).alloc (Nat.le_refl _) _
          have HFa := Lib.hid (hfr2.alloc (by omega) (.cells #[.int .i64 cj.kind, .slice B1 cj.terms.length m1, .int .i64 cj.cmp, .int .i64 cj.than, .slice B3 cj.kids.length m3] 25))
          have hsa : (wr.alloc (.cells #[.int .i64 cj.kind, .slice B1 cj.terms.length m1, .int .i64 cj.cmp, .int .i64 cj.than, .slice B3 cj.kids.length m3] 25)).heap.size = wr.heap.size + 1 := by simp
          have HCj2 := Lib.hid (HCj.out _ hvk (hkc.later hla) (by rw [← HN2.out]; exact own_below HO2.out hla) (by omega) (by rw [← HN2.out, hW8]; exact hNb))
          clear hcl hkeep hkc s1 t1 hla HCj hfr2
          generalize cj.terms.length = x1 at *
          generalize cj.kids.length = x3 at *
          generalize cj.kind = x0 at *
          generalize cj.cmp = x2 at *
          generalize cj.than = x4 at *
          go_wp2_with fail
          refine HCj2.out.mono ?_
          rintro e w5 ⟨out', rfl, hown5, hfr5, hof5⟩
          obtain ⟨A5, c5, rfl⟩ := own_form hown5
          have HFn : Hid (FrS w.heap.size (fun k => (Value.slice oA aN oc).ownBlock = some k) w w5) := by
            refine HFa.out.trans ⟨hfr5.os, hfr5.tape, hfr5.output, hfr5.size, fun k hk hn => hfr5.block k (by omega) fun e => ?_⟩
            rcases HOf2.out k e with h | h
            · exact hn h
            · omega
          have HOfn : Hid (∀ k, (Value.slice A5 (acc ++ ts.map (·.2) ++ (ks.take j).flatMap (namesF f) ++ namesF f cj).length c5).ownBlock = some k → (Value.slice oA aN oc).ownBlock = some k ∨ w.heap.size + 1 ≤ k) := fun k hk => by
            rcases hof5 k hk with h | h
            · exact HOf2.out k h
            · exact .inr (by omega)
          have HO5 := Lib.hid hown5
          have hs5 := hfr5.size
          rw [HTk.out] at HO5 HOfn
          rw [HTk.out]
          obtain ⟨N3, hN3⟩ : ∃ N3, N3 = (acc ++ ts.map (·.2) ++ (ks.take (j + 1)).flatMap (namesF f)).length := ⟨_, rfl⟩
          rw [← hN3] at HO5 HOfn
          rw [← hN3]
          have HN3 := Lib.hid hN3
          clear hown5 hfr5 hof5 hN3 HCj2
          go_wp2_with fail
          go_roundw
          case rel => exact ⟨trivial, j + 1, N3, A5, c5, by omega, by go_num, rfl, HN3.out, HO5.out, HFn.out, HOfn.out, by omega⟩
          case measure => simp [intOf]; omega
        · have hia : ¬ (j : Int) < (ks.length : Int) := by omega
          have hjk : j = ks.length := by omega
          have hnm : namesF (f + 1) (.mk k0 ts cm n ks) = ts.map (·.2) ++ ks.flatMap (namesF f) := rfl
          have HOe : Hid (wr.ownsRow base 9 1 (.slice A2 N2 cp2) (acc ++ namesF (f + 1) (.mk k0 ts cm n ks)).length (snames (acc ++ namesF (f + 1) (.mk k0 ts cm n ks)))) := by
            have h1 := HO2.out
            have h2' := HN2.out
            rw [hjk, List.take_length, List.append_assoc, ← hnm] at h1 h2'
            rw [← h2']
            exact h1
          clear hjk hfr2
          go_wp2_with fail
          go_ret
          exact ⟨.slice A2 N2 cp2, rfl, own_cast HOe.out (by simp [namesF, Cd.terms, Cd.kids]) (by simp [namesF, Cd.terms, Cd.kids]), HF2.out, fun k hk => (HOf2.out k hk).elim .inl fun e => .inr (by omega)⟩
theorem names_all : ∀ f, NmAt f
  | 0 => fun _ _ _ _ _ _ h => h.elim
  | f + 1 => names_step f (names_all f)
end Go.Proofs.YtonmpealebggoaaGreatDoor
