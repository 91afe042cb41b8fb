/- The walk of the parser's cond at the levels of and, or. -/
import Derived.Test.YtonmpealebggoaaGreatDoorPrpCo
namespace Go.Proofs.YtonmpealebggoaaGreatDoor
open Go.RowKit Pr
theorem PsM.at_ {S : ByteArray} {K : Nat} {s : St} {w : World} (h : PsM S K s w) : ∃ a : Nat, a ≤ S.size ∧ a + stLen s = S.size ∧ w.cell? ⟨K, 0, none⟩ = some (.string S) ∧ w.cell? ⟨K, 1, none⟩ = some (.int .i64 (a : Int)) ∧ w.cell? ⟨K, 2, none⟩ = some (.string (Bs s.1)) := by
  obtain ⟨a, hp, hr⟩ := h
  have h1 := hp.le
  have h2 := congrArg List.length hp.rs
  rw [List.length_drop] at h2
  simp at h1 h2
  exact ⟨a, by omega, by unfold stLen; omega, hr.at_ (i := 0) (by simp), hr.at_ (i := 1) (by simp), hr.at_ (i := 2) (by simp)⟩
theorem b5_froz {w : World} {g : Nat} {t : TypeId} {a b c d e : Value} (h : Blk w g t #[a, b, c, d, e]) : w.frozen? ⟨g, 0, none⟩ = false ∧ w.frozen? ⟨g, 1, none⟩ = false ∧ w.frozen? ⟨g, 2, none⟩ = false ∧ w.frozen? ⟨g, 3, none⟩ = false ∧ w.frozen? ⟨g, 4, none⟩ = false :=
  ⟨Blk.frozen h 0, Blk.frozen h 1, Blk.frozen h 2, Blk.frozen h 3, Blk.frozen h 4⟩
/-- What stands where more operands are read. -/
structure ClI (S : ByteArray) (K C B : Nat) (PM : Nat → Cd → St → Option (Cd × St)) (R : Option (Cd × St)) (w wq : World) (c : Cd) (s : St) (k : Nat) (v : V5) : Prop where
  kl : stLen s < k
  sl : stLen s ≤ B
  res : PM k c s = R
  ps : PsM S K s wq
  b1 : B5 wq C v
  b0 : Blk wq w.heap.size 25 #[.int .i64 0, .slice none 0 0, .int .i64 0, .int .i64 0, .slice none 0 0]
  cd : CdV (fun b => w.heap.size + 1 ≤ b ∧ b ≠ C) wq v c
  fr : FrS w.heap.size (fun k => k = K) w wq
  tab : TabK K wq
set_option maxRecDepth 100000 in
set_option maxHeartbeats 16000000 in
theorem cond_low (S : ByteArray) (K f : Nat) (HC : CnAt S K f) (least : Nat) (hcase : least = 1 ∨ least = 2) (s : St) (w : World) (h : PsM S K s w) (hs : S.size ≤ 4096) (hT : TabK K w) (hf : 3 * stLen s + (3 - least) < f + 1) :
    Calls Tryz.prog 28 #[.pointer (some ⟨K, 0, none⟩), .int .i64 least] w (CmPost S K (pCond (f + 1) least s) w) := by
  have hl := h.lt
  have hQ := pCond_low f least s (by omega)
  generalize pCond (f + 1) least s = Q at *
  have HG : Hid (∀ (s' : St) (W : World), PsM S K s' W → TabK K W → stLen s' ≤ stLen s → Calls Tryz.prog 28 #[.pointer (some ⟨K, 0, none⟩), .int .i64 ((least : Int) + 1)] W (CmPost S K (pCond f (least + 1) s') W)) := fun s' W h1 h2 h3 => HC (least + 1) s' W (by omega) (by omega) h1 h2 (by omega)
  have HGl : Hid (∀ s' r, pCond f (least + 1) s' = some r → stLen r.2 ≤ stLen s') := fun s' r hr => pCond_len f (least + 1) hr
  have HPM : Hid (∀ k c s', pMore (pCond f (least + 1)) (kdOf least) (kwOf least) (k + 1) c s' = if s'.1 = kwOf least then (match pCond f (least + 1) (lexW s'.2) with
    | none => none
    | some (d, s2) => pMore (pCond f (least + 1)) (kdOf least) (kwOf least) k (.mk (kdOf least) [] 0 0 [c, d]) s2) else some (c, s')) := fun _ _ _ => rfl
  have hkw : kwOf least ≠ [] := by rcases hcase with rfl | rfl <;> simp [kwOf, wAnd, wOr]
  generalize pMore (pCond f (least + 1)) (kdOf least) (kwOf least) = PM at *
  generalize pCond f (least + 1) = G at *
  have HQ := Lib.hid hQ
  have HF := Lib.hid ((FrS.refl w.heap.size (fun k => k = K) w).alloc (Nat.le_refl _) (.cells #[.int .i64 0, .slice none 0 0, .int .i64 0, .int .i64 0, .slice none 0 0] 25))
  have HR := Lib.hid (Blk.new w 25 #[.int .i64 0, .slice none 0 0, .int .i64 0, .int .i64 0, .slice none 0 0])
  have HT := Lib.hid (HF.out.tab (K := K) (Nat.le_of_lt hl) (fun k e => by omega) hT)
  have HCa := Lib.hid (HG.out s _ (h.alloc (.cells #[.int .i64 0, .slice none 0 0, .int .i64 0, .int .i64 0, .slice none 0 0] 25)) HT.out (Nat.le_refl _))
  clear h hT HC hQ hf
  generalize hB : stLen s = B at *
  have HBq := Lib.hid hB
  clear hB
  generalize hKW : kwOf least = KWs at *
  generalize hKD : kdOf least = KD at *
  rcases hcase with rfl | rfl
  all_goals
    simp [kwOf, wAnd, wOr] at hKW
    simp [kdOf] at hKD
    have hKD64 : I64 KD := by unfold I64; omega
    have HKD := Lib.hid hKD
    clear hKD
    have HKW := Lib.hid hKW
    clear hKW
    go_enter Tryz.func28, Tryz.ntmps28
    go_wp2_with fail
    refine HCa.out.mono ?_
    rintro e w3 ⟨hg, hq, hp⟩
    have HF3 := Lib.hid (HF.out.grown hg (by simp) (.inr rfl))
    have HR3 := Lib.hid (HR.out.gr hg (by omega))
    have HT3 := Lib.hid (HT.out.below ⟨hg.os, hg.tape, hg.output, hg.size, fun k hk => hg.block k (by simp; omega) (by simp; omega)⟩)
    have hs3 : w.heap.size + 1 ≤ w3.heap.size := by have := hg.size; simpa using this
    clear hg HCa HF HR HT
    cases hc : G s with
    | none =>
      obtain ⟨a2, ha2, rfl⟩ := hp hc
      have HQn := Lib.hid (show Q = none by rw [HQ.out, hc])
      clear hp hq hc
      go_wp2_with fail
      exact ⟨rfl, HF3.out.to fun _ h => h, fun r hr => (by rw [HQn.out] at hr; cases hr), fun _ => ⟨a2, ha2, rfl⟩⟩
    | some x =>
      obtain ⟨c0, s2⟩ := x
      obtain ⟨v0, rfl, hcd, hps⟩ := hq _ hc
      have HQ2 := Lib.hid (show PM (stLen s2 + 1) c0 s2 = Q by rw [HQ.out, hc])
      have hl2 := Nat.le_trans (HGl.out _ _ hc) (Nat.le_of_eq HBq.out)
      have HCd := Lib.hid hcd
      have HPs := Lib.hid hps
      obtain ⟨tv, dv, vs, rfl, ht, hd, -⟩ := hcd.open_
      obtain ⟨A1, c1, rfl⟩ := ht.form
      obtain ⟨A2, c2, rfl⟩ := hd.form
      clear hcd hps ht hd hp hq hc HQ
      dsimp only [V5.val] at *
      go_wp2_with fail
      have HI : Hid (ClI S K w3.heap.size B PM Q w (w3.alloc (.cells #[.int .i64 c0.kind, .slice A1 c0.terms.length c1, .int .i64 c0.cmp, .int .i64 c0.than, .slice A2 c0.kids.length c2] 25)) c0 s2 (stLen s2 + 1) ⟨.int .i64 c0.kind, .slice A1 c0.terms.length c1, .int .i64 c0.cmp, .int .i64 c0.than, .slice A2 c0.kids.length c2⟩) := by
        refine ⟨Nat.lt_succ_self _, by omega, HQ2.out, HPs.out.alloc _, Blk.new w3 _ _, HR3.out.alloc _, ?_, HF3.out.alloc (by omega) _, HT3.out.below ((Below.refl K w3).alloc (by have := HPs.out.lt; omega) _)⟩
        have hcd := (HCd.out.mono (Q := fun b => (w.heap.size + 1 ≤ b ∧ b ≠ w3.heap.size)) fun b hb hl => ⟨by simpa using hl, by omega⟩)
        exact hcd.alloc _
      have hC : w.heap.size + 1 ≤ w3.heap.size := by omega
      clear HCd HPs HF3 HR3 HT3 HQ2 hl2
      generalize w3.alloc (.cells #[.int .i64 c0.kind, .slice A1 c0.terms.length c1, .int .i64 c0.cmp, .int .i64 c0.than, .slice A2 c0.kids.length c2] 25) = w4 at *
      generalize w3.heap.size = C at *
      go_loopw [] (fun wq => True ∧ ∃ c s k v, ClI S K C B PM Q w wq c s k v) (fun wq => S.size - (intOf ((wq.cell? ⟨K, 1, none⟩).getD .nilIface)).toNat)
      case atStart => exact ⟨trivial, _, _, _, _, HI.out⟩
      case round =>
        obtain ⟨-, c, s', k, v, hi⟩ := hrel
        have HIi := Lib.hid hi
        obtain ⟨a1, ha1, has, q0, q1, q2⟩ := hi.ps.at_
        have hlk := hi.ps.lt
        have hkl := hi.kl
        have hsl := hi.sl
        obtain ⟨k, rfl⟩ : ∃ k', k = k' + 1 := ⟨k - 1, by omega⟩
        have HRes := Lib.hid ((HPM.out k c s').symm.trans hi.res)
        obtain ⟨tv, dv, vs, rfl, ht, hd, -⟩ := hi.cd.open_
        obtain ⟨A3, c3, rfl⟩ := ht.form
        obtain ⟨A4, c4, rfl⟩ := hd.form
        have HNx := Lib.hid (hi.ps.next hs)
        obtain ⟨x0, x1, x2, x3, x4⟩ := b5_cells hi.b1
        have xl := hi.b1.lt
        have hs4 := hi.fr.size
        clear hi ht hd
        have hkw2 := HKW.out
        by_cases hp : s'.1 = KWs
        · have hsl2 : stLen (lexW s'.2) < stLen s' := step_len (by rw [hp]; exact hkw)
          have HRp := Lib.hid ((if_pos hp).symm.trans HRes.out)
          have u1 : ((Bs s'.1).toList == KWs) = true := by rw [Lib.toList_data]; simpa using hp
          rw [← hkw2] at u1
          generalize Bs s'.1 = WD at *
          clear HRes hp hkw2
          go_wp2_with fail
          refine HNx.out.mono ?_
          rintro e w5 ⟨rfl, hps, hg⟩
          have hf5 : FrS wr.heap.size (fun k => k = K) wr w5 := ⟨hg.os, hg.tape, hg.output, hg.size, fun k hk hn => hg.block k hk (by simp; exact hn)⟩
          have HB15 := Lib.hid (hf5.blk HIi.out.b1 xl (by omega))
          have HB05 := Lib.hid (hf5.blk HIi.out.b0 HIi.out.b0.lt (by omega))
          have HCd5 := Lib.hid (hf5.cdv HIi.out.cd fun b hb hlt => ⟨hlt, by omega⟩)
          have HF5 := Lib.hid (HIi.out.fr.grown hg HIi.out.fr.size (.inr rfl))
          have HT5 := Lib.hid (hf5.tab (K := K) (by omega) (fun k e => by omega) HIi.out.tab)
          have hs5 := hf5.size
          have HCa5 := Lib.hid (HG.out (lexW s'.2) w5.drew hps.drew (HT5.out.below (Below.refl _ _).drew) (by omega))
          have HGl5 := Lib.hid (HGl.out (lexW s'.2))
          have hS0 : (fun w' : World => w'.cell? ⟨C, 0, none⟩ = some (.int .i64 c.kind) ∧ w'.cell? ⟨C, 1, none⟩ = some (.slice A3 c.terms.length c3) ∧ w'.cell? ⟨C, 2, none⟩ = some (.int .i64 c.cmp) ∧ w'.cell? ⟨C, 3, none⟩ = some (.int .i64 c.than) ∧ w'.cell? ⟨C, 4, none⟩ = some (.slice A4 c.kids.length c4)) w5.drew := b5_cells HB15.out
          have hl5 : C < w5.heap.size := HB15.out.lt
          clear hf5 hg hps HNx x0 x1 x2 x3 x4 xl
          generalize G (lexW s'.2) = GN at *
          go_wp2_with fail
          refine wp_region_tail (fun w' => w'.cell? ⟨C, 0, none⟩ = some (.int .i64 c.kind) ∧ w'.cell? ⟨C, 1, none⟩ = some (.slice A3 c.terms.length c3) ∧ w'.cell? ⟨C, 2, none⟩ = some (.int .i64 c.cmp) ∧ w'.cell? ⟨C, 3, none⟩ = some (.int .i64 c.than) ∧ w'.cell? ⟨C, 4, none⟩ = some (.slice A4 c.kids.length c4)) 7 (by kernel_rfl) (by kernel_rfl) hS0 (fun hHeld => ?_)
          refine wpAnyD_take 0 (v := ?_) rfl (by kernel_rfl) (by kernel_rfl) (by kernel_rfl) (fun _ _ _ h => h) hHeld (Or.inl ⟨by rfl, ?_⟩) ?_
          rotate_left
          · intro w' hw'; obtain ⟨h0, h1, h2, h3, h4⟩ := hw'; go_simp; try with_reducible rfl
          try simp only [Act.put, List.setIfInBounds_toArray, List.set_cons_zero, List.set_cons_succ]
          refine wpAnyD_take 1 (v := ?_) rfl (by kernel_rfl) (by kernel_rfl) (by kernel_rfl) (fun _ _ _ h => h) hHeld (Or.inl ⟨by rfl, ?_⟩) ?_
          rotate_left
          · intro w' hw'; obtain ⟨h0, h1, h2, h3, h4⟩ := hw'; go_simp; try with_reducible rfl
          try simp only [Act.put, List.setIfInBounds_toArray, List.set_cons_zero, List.set_cons_succ]
          refine wpAnyD_take 2 (v := ?_) rfl (by kernel_rfl) (by kernel_rfl) (by kernel_rfl) (fun _ _ _ h => h) hHeld (Or.inl ⟨by rfl, ?_⟩) ?_
          rotate_left
          · intro w' hw'; obtain ⟨h0, h1, h2, h3, h4⟩ := hw'; go_simp; try with_reducible rfl
          try simp only [Act.put, List.setIfInBounds_toArray, List.set_cons_zero, List.set_cons_succ]
          refine wpAnyD_take 3 (v := ?_) rfl (by kernel_rfl) (by kernel_rfl) (by kernel_rfl) (fun _ _ _ h => h) hHeld (Or.inl ⟨by rfl, ?_⟩) ?_
          rotate_left
          · intro w' hw'; obtain ⟨h0, h1, h2, h3, h4⟩ := hw'; go_simp; try with_reducible rfl
          try simp only [Act.put, List.setIfInBounds_toArray, List.set_cons_zero, List.set_cons_succ]
          refine wpAnyD_take 4 (v := ?_) rfl (by kernel_rfl) (by kernel_rfl) (by kernel_rfl) (fun _ _ _ h => h) hHeld (Or.inl ⟨by rfl, ?_⟩) ?_
          rotate_left
          · intro w' hw'; obtain ⟨h0, h1, h2, h3, h4⟩ := hw'; go_simp; try with_reducible rfl
          try simp only [Act.put, List.setIfInBounds_toArray, List.set_cons_zero, List.set_cons_succ]
          refine wpAnyD_ready [5] (by kernel_rfl) ?_
          refine AllReadyD.cons rfl (fun KK hK => ?_) AllReadyD.nil
          go_simp
          refine HCa5.out.mono ?_
          rintro e w9 ⟨hg9, hq, hp⟩
          have HF9 : Hid (FrS w5.heap.size (fun k => k = K) w5 w9) := ⟨hg9.os, hg9.tape, hg9.output, hg9.size, fun k hk hn => hg9.block k hk (by simp; exact hn)⟩
          have hs9 : w5.heap.size ≤ w9.heap.size := HF9.out.size
          have HFw9 := Lib.hid (HF5.out.trans (HF9.out.weak (by omega) fun _ _ h => h))
          have HT9 := Lib.hid (HF9.out.tab (K := K) (by omega) (fun k e => by omega) HT5.out)
          cases ht : GN with
          | none =>
            obtain ⟨a2, ha2, rfl⟩ := hp ht
            have HQn := Lib.hid (show Q = none by rw [← HRp.out, ht])
            exact ⟨rfl, HFw9.out.to fun _ h => h, fun r hr => (by rw [HQn.out] at hr; cases hr), fun _ => ⟨a2, ha2, rfl⟩⟩
          | some x =>
            obtain ⟨d, s6⟩ := x
            obtain ⟨v2, rfl, hcd2, hps⟩ := hq _ ht
            have HR6 := Lib.hid ((show Q = PM k (.mk KD [] 0 0 [c, d]) s6 by rw [← HRp.out, ht]))
            have hl6 := HGl5.out _ ht
            have HPs9 := Lib.hid hps
            have HB19 := Lib.hid (HF9.out.blk HB15.out (by omega) (by omega))
            have HB09 := Lib.hid (HF9.out.blk HB05.out (by have := HB05.out.lt; omega) (by omega))
            have HCd9 := Lib.hid (HF9.out.cdv HCd5.out fun b hb hlt => ⟨hlt, by omega⟩)
            have HCd2 := Lib.hid (hcd2.mono (Q := fun b => w.heap.size + 1 ≤ b ∧ b ≠ C) fun b _ hb => by have hb : w5.heap.size ≤ b := hb; omega)
            obtain ⟨tv2, dv2, vs2, rfl, ht2, hd2, -⟩ := hcd2.open_
            obtain ⟨A5, c5, rfl⟩ := ht2.form
            obtain ⟨A6, c6, rfl⟩ := hd2.form
            have hg9' : (fun w' : World => w'.cell? ⟨C, 0, none⟩ = some (.int .i64 c.kind) ∧ w'.cell? ⟨C, 1, none⟩ = some (.slice A3 c.terms.length c3) ∧ w'.cell? ⟨C, 2, none⟩ = some (.int .i64 c.cmp) ∧ w'.cell? ⟨C, 3, none⟩ = some (.int .i64 c.than) ∧ w'.cell? ⟨C, 4, none⟩ = some (.slice A4 c.kids.length c4)) w9 := b5_cells HB19.out
            clear hp hq ht hps hg9 hcd2 ht2 hd2
            dsimp only [V5.val] at *
            refine hK.out _ _ hg9' (fun hHeld => ?_)
            refine wpAnyD_ready [6] (by kernel_rfl) ?_
            refine AllReadyD.cons rfl (fun KK hK => ?_) AllReadyD.nil
            go_simp
            have hg10 : (fun w' : World => w'.cell? ⟨C, 0, none⟩ = some (.int .i64 c.kind) ∧ w'.cell? ⟨C, 1, none⟩ = some (.slice A3 c.terms.length c3) ∧ w'.cell? ⟨C, 2, none⟩ = some (.int .i64 c.cmp) ∧ w'.cell? ⟨C, 3, none⟩ = some (.int .i64 c.than) ∧ w'.cell? ⟨C, 4, none⟩ = some (.slice A4 c.kids.length c4)) (w9.alloc (.cells #[.int .i64 c.kind, .slice A3 c.terms.length c3, .int .i64 c.cmp, .int .i64 c.than, .slice A4 c.kids.length c4, .int .i64 d.kind, .slice A5 d.terms.length c5, .int .i64 d.cmp, .int .i64 d.than, .slice A6 d.kids.length c6] 25)) := b5_cells (HB19.out.alloc (.cells #[.int .i64 c.kind, .slice A3 c.terms.length c3, .int .i64 c.cmp, .int .i64 c.than, .slice A4 c.kids.length c4, .int .i64 d.kind, .slice A5 d.terms.length c5, .int .i64 d.cmp, .int .i64 d.than, .slice A6 d.kids.length c6] 25))
            have HB4 := Lib.hid (Blk.new w9 25 #[.int .i64 c.kind, .slice A3 c.terms.length c3, .int .i64 c.cmp, .int .i64 c.than, .slice A4 c.kids.length c4, .int .i64 d.kind, .slice A5 d.terms.length c5, .int .i64 d.cmp, .int .i64 d.than, .slice A6 d.kids.length c6])
            have HB4l := Lib.hid HB4.out.lt
            have HBa := Lib.hid (HB19.out.alloc (.cells #[.int .i64 c.kind, .slice A3 c.terms.length c3, .int .i64 c.cmp, .int .i64 c.than, .slice A4 c.kids.length c4, .int .i64 d.kind, .slice A5 d.terms.length c5, .int .i64 d.cmp, .int .i64 d.than, .slice A6 d.kids.length c6] 25))
            have HBb := Lib.hid (HB09.out.alloc (.cells #[.int .i64 c.kind, .slice A3 c.terms.length c3, .int .i64 c.cmp, .int .i64 c.than, .slice A4 c.kids.length c4, .int .i64 d.kind, .slice A5 d.terms.length c5, .int .i64 d.cmp, .int .i64 d.than, .slice A6 d.kids.length c6] 25))
            have HPa := Lib.hid (HPs9.out.alloc (.cells #[.int .i64 c.kind, .slice A3 c.terms.length c3, .int .i64 c.cmp, .int .i64 c.than, .slice A4 c.kids.length c4, .int .i64 d.kind, .slice A5 d.terms.length c5, .int .i64 d.cmp, .int .i64 d.than, .slice A6 d.kids.length c6] 25))
            have HFa := Lib.hid (HFw9.out.alloc (by omega) (.cells #[.int .i64 c.kind, .slice A3 c.terms.length c3, .int .i64 c.cmp, .int .i64 c.than, .slice A4 c.kids.length c4, .int .i64 d.kind, .slice A5 d.terms.length c5, .int .i64 d.cmp, .int .i64 d.than, .slice A6 d.kids.length c6] 25))
            have HTa := Lib.hid (HT9.out.below ((Below.refl K w9).alloc (by omega) (.cells #[.int .i64 c.kind, .slice A3 c.terms.length c3, .int .i64 c.cmp, .int .i64 c.than, .slice A4 c.kids.length c4, .int .i64 d.kind, .slice A5 d.terms.length c5, .int .i64 d.cmp, .int .i64 d.than, .slice A6 d.kids.length c6] 25)))
            have HCa := Lib.hid (cdv_two (P := fun b => w.heap.size + 1 ≤ b ∧ b ≠ C) KD hKD64 HB4.out (by omega) (HCd9.out.alloc (.cells #[.int .i64 c.kind, .slice A3 c.terms.length c3, .int .i64 c.cmp, .int .i64 c.than, .slice A4 c.kids.length c4, .int .i64 d.kind, .slice A5 d.terms.length c5, .int .i64 d.cmp, .int .i64 d.than, .slice A6 d.kids.length c6] 25)) (HCd2.out.alloc (.cells #[.int .i64 c.kind, .slice A3 c.terms.length c3, .int .i64 c.cmp, .int .i64 c.than, .slice A4 c.kids.length c4, .int .i64 d.kind, .slice A5 d.terms.length c5, .int .i64 d.cmp, .int .i64 d.than, .slice A6 d.kids.length c6] 25)))
            refine hK.out _ _ hg10 (fun hHeld => ?_)
            refine wpAnyD_done (by kernel_rfl) ?_
            simp only [List.drop_succ_cons, List.drop_zero]
            obtain ⟨x0, x1, x2, x3, x4⟩ := b5_cells HBa.out
            have xl := HBa.out.lt
            obtain ⟨xf0, xf1, xf2, xf3, xf4⟩ := b5_froz HBa.out
            clear hg9' hg10 hHeld hK hS0 HB4 HB19 HB09 HPs9 HFw9 HT9 HCd9 HCd2
            generalize w9.alloc (.cells #[.int .i64 c.kind, .slice A3 c.terms.length c3, .int .i64 c.cmp, .int .i64 c.than, .slice A4 c.kids.length c4, .int .i64 d.kind, .slice A5 d.terms.length c5, .int .i64 d.cmp, .int .i64 d.than, .slice A6 d.kids.length c6] 25) = w10 at *
            have hl10 : w9.heap.size < w10.heap.size := HB4l.out
            have HZ : Hid (ClI S K C B PM Q w (put5 w10 C ⟨.int .i64 KD, .slice none 0 0, .int .i64 0, .int .i64 0, .slice (some ⟨w9.heap.size, 0, none⟩) 2 2⟩) (.mk KD [] 0 0 [c, d]) s6 k ⟨.int .i64 KD, .slice none 0 0, .int .i64 0, .int .i64 0, .slice (some ⟨w9.heap.size, 0, none⟩) 2 2⟩) := by
              have hg12 := put5_frs (FrS.refl w10.heap.size (fun k => k = C) w10) (g := C) (.inr rfl) ⟨.int .i64 KD, .slice none 0 0, .int .i64 0, .int .i64 0, .slice (some ⟨w9.heap.size, 0, none⟩) 2 2⟩
              exact ⟨by omega, by omega, HR6.out.symm, hg12.psm HPa.out HPa.out.lt (by omega), b5_put (v := ⟨_, _, _, _, _⟩) HBa.out _, hg12.blk HBb.out HBb.out.lt (by omega), hg12.cdv HCa.out (fun b hb hlt => ⟨hlt, hb.2⟩), put5_frs HFa.out (.inl (by omega)) _, hg12.tab (by have := HPa.out.lt; omega) (fun k h => by omega) HTa.out⟩
            have HMs : Hid (S.size - (intOf (((put5 w10 C ⟨.int .i64 KD, .slice none 0 0, .int .i64 0, .int .i64 0, .slice (some ⟨w9.heap.size, 0, none⟩) 2 2⟩).cell? ⟨K, 1, none⟩).getD .nilIface)).toNat < S.size - (intOf ((wr.cell? ⟨K, 1, none⟩).getD .nilIface)).toNat) := by
              obtain ⟨a', h1, h2, _, h3, _⟩ := HZ.out.ps.at_
              unfold Hid
              rw [h3, q1]
              simp [intOf]
              omega
            have hKD := HKD.out
            clear HKD
            subst hKD
            go_wp2_with fail
            go_roundw
            case rel => exact ⟨_, _, _, _, _, _, _, _, _, _, _, _, _, _, _, _, ⟨trivial, _, _, _, _, HZ.out⟩, rfl⟩
            case measure => exact HMs.out
        · have HRn := Lib.hid ((if_neg hp).symm.trans HRes.out)
          have u1 : ((Bs s'.1).toList == KWs) = false := by rw [Lib.toList_data]; simpa using hp
          rw [← hkw2] at u1
          generalize Bs s'.1 = WD at *
          have HX := Lib.hid (cond_end (S := S) rfl HIi.out.fr HIi.out.b0 (HIi.out.cd.mono fun b _ hb => hb.1) HIi.out.ps hl)
          obtain ⟨y0, y1, y2, y3, y4⟩ := b5_cells HIi.out.b0
          obtain ⟨yf0, yf1, yf2, yf3, yf4⟩ := b5_froz HIi.out.b0
          have yl := HIi.out.b0.lt
          have hne : C ≠ w.heap.size := by omega
          clear HRes hp hkw2 HNx
          go_wp2_with fail
          clear y0 y1 y2 y3 y4 yf0 yf1 yf2 yf3 yf4 yl x0 x1 x2 x3 x4 xl
          unfold put5 at HX
          dsimp only at HX
          generalize World.setCell _ _ _ = w12 at *
          obtain ⟨k0, k1, k2, k3, k4⟩ := b5_cells HX.out.2.2.2
          refine bodyPost_ret (v := .agg #[_, _, _, _, _]) (by simp [results, Tryz.results28, go_sem, k0, k1, k2, k3, k4]; exact ⟨rfl, rfl, rfl, rfl, rfl⟩) rfl ?_
          exact ⟨HX.out.1, fun r hr => (by rw [← HRn.out] at hr; cases hr; exact ⟨_, rfl, HX.out.2.1, HX.out.2.2.1⟩), fun hr => (by rw [← HRn.out] at hr; cases hr)⟩
end Go.Proofs.YtonmpealebggoaaGreatDoor
