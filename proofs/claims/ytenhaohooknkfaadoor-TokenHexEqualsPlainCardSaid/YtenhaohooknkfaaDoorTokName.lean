/- The walk of the cursor's name. -/
import Derived.Test.YtenhaohooknkfaaDoorTokInt
import Derived.Test.YtenhaohooknkfaaDoorTokHex
namespace Go.Proofs.YtenhaohooknkfaaDoor
open Go.RowKit Tk
def nameT (l : Src) : Res Src := match nameW (run l) with | .error e => .error e | .ok t => .ok (t, (run l).length)
set_option maxHeartbeats 8000000 in
theorem name_any (S : ByteArray) (cb p : Nat) (w : World) (h : Cu w cb S p) (hp : p ≤ S.size) (hs : S.size ≤ 100000) :
    Calls Tryd.prog 47 #[.pointer (some ⟨cb, 0, none⟩)] w (TxtPost S cb p (nameT ((bys S).drop p)) w) := by
  have HR := Lib.hid (run_any S cb p w h hp (by omega))
  have hW : (run ((bys S).drop p)).length ≤ 100000 := by have := run_len ((bys S).drop p); rw [List.length_drop, bys_len] at this; omega
  have HN : Hid (nameT ((bys S).drop p) = match nameW (run ((bys S).drop p)) with | .error e => .error e | .ok t => .ok (t, (run ((bys S).drop p)).length)) := rfl
  generalize nameT ((bys S).drop p) = T at *
  generalize run ((bys S).drop p) = W at *
  have hcl := h.cells.2.2.2
  obtain ⟨V, hV⟩ : ∃ V : ByteArray, V = ⟨W.toArray⟩ := ⟨_, rfl⟩
  have hVz : V.size ≤ 100000 := by rw [hV, int_size]; exact hW
  have HVb : Hid (bys V = W) := by unfold Hid; rw [hV, int_bys]
  rw [← hV] at HR
  clear h hV
  go_enter Tryd.func47, Tryd.ntmps47
  go_wp2_with fail
  refine HR.out.mono ?_
  rintro e w1 ⟨rfl, hc1, hf1⟩
  have hz1 := hf1.size
  have HC1 := Lib.hid hc1
  have HF1 := Lib.hid hf1
  clear hc1 hf1
  go_wp2_with fail
  have hbx : FrS w1.heap.size (fun _ => False) w1 ((w1.alloc (.cells #[.string V, .int .i64 0] 66)).alloc (.cells #[.pointer none, .slice none 0 0] 52)) := ((FrS.refl w1.heap.size (fun _ => False) w1).alloc (Nat.le_refl _) _).alloc (by simp) _
  have hcu0 : Cu ((w1.alloc (.cells #[.string V, .int .i64 0] 66)).alloc (.cells #[.pointer none, .slice none 0 0] 52)) w1.heap.size V 0 := Blk.alloc (Blk.new w1 _ _) _
  have hpk0 : Pk (w1.heap.size + 2) (w1.heap.size + 1) [] ((w1.alloc (.cells #[.string V, .int .i64 0] 66)).alloc (.cells #[.pointer none, .slice none 0 0] 52)) := pk_fresh (by have := Blk.new (w1.alloc (.cells #[.string V, .int .i64 0] 66)) 52 #[.pointer none, .slice none 0 0]; simpa using this)
  have hsz0 : w1.heap.size + 2 ≤ ((w1.alloc (.cells #[.string V, .int .i64 0] 66)).alloc (.cells #[.pointer none, .slice none 0 0] 52)).heap.size := by simp
  generalize (w1.alloc (.cells #[.string V, .int .i64 0] 66)).alloc (.cells #[.pointer none, .slice none 0 0] 52) = w2 at *
  have HX := Lib.hid hbx
  have HU := Lib.hid hcu0
  have HK := Lib.hid hpk0
  have HT : Hid (nameW W = match nameF (((bys V).drop 0).length + 1) ((bys V).drop 0) [] with | .error e => .error e | .ok acc => if acc.length = 0 then .error 5 else if 31 < acc.length then .error 2 else .ok acc) := by
    unfold Hid
    rw [List.drop_zero, HVb.out]; rfl
  have hWl : W.length = V.size := by rw [← HVb.out, bys_len]
  clear hbx hcu0 hpk0
  generalize hB : w1.heap.size = B at *
  have HBq := Lib.hid hB
  clear hB
  generalize hT2 : nameF (((bys V).drop 0).length + 1) ((bys V).drop 0) [] = T2 at *
  have HT2 := Lib.hid hT2
  clear hT2
  go_loopw [] (fun wq => True ∧ ∃ (q f : Nat) (acc : Src), q ≤ V.size ∧ acc.length ≤ q ∧ Cu wq B V q ∧ Pk (B + 2) (B + 1) acc wq ∧ ((bys V).drop q).length < f ∧ nameF f ((bys V).drop q) acc = T2 ∧ FrS B (fun _ => False) w1 wq ∧ B + 2 ≤ wq.heap.size) (fun wq => V.size - (intOf ((wq.cell? ⟨B, 1, none⟩).getD .nilIface)).toNat)
  case atStart => exact ⟨trivial, 0, ((bys V).drop 0).length + 1, [], Nat.zero_le _, Nat.le_refl _, HU.out, HK.out, by omega, HT2.out, HX.out, hsz0⟩
  case round =>
    obtain ⟨-, q, f, acc, hq, hal, hcu, hpk, hfu, htx, hfr, hsz⟩ := hrel
    obtain ⟨g, rfl⟩ : ∃ g, f = g + 1 := ⟨f - 1, by omega⟩
    obtain ⟨c0, c1, cf, cl⟩ := hcu.cells
    have HCu := Lib.hid hcu
    have HFr := Lib.hid hfr
    have HTe := Lib.hid htx
    have HPk := Lib.hid hpk
    have HWB : Hid (∀ W c, FrS wr.heap.size (fun k => k = B) wr W → Calls Tryd.prog 25 #[.pointer (some ⟨B + 1, 0, none⟩), .int .u8 (bt c)] W fun e w' => e = .returned .nilIface ∧ Pk (B + 2) (B + 1) (acc ++ [c]) w' ∧ FrX (B + 2) (B + 1) W w') := fun W c hf =>
      (pk_byte (hpk.fr hf (Nat.le_refl _) fun k e => by omega) c (bt c) rfl (by omega) (Nat.le_trans hsz hf.size)).mono fun _ _ h => ⟨h.1, h.2.1, h.2.2.1⟩
    have HMea : Hid (∀ (W : World) (j : Nat), Cu W B V j → q < j → q < V.size → V.size - (intOf ((W.cell? ⟨B, 1, none⟩).getD .nilIface)).toNat < V.size - (intOf ((wr.cell? ⟨B, 1, none⟩).getD .nilIface)).toNat) := fun W j h hj hq => by
      rw [h.cells.2.1, c1]
      simp [intOf]; omega
    clear hcu hfr htx hpk
    by_cases hlt : q < V.size
    · have hi1 : (q : Int) < (V.size : Int) := by omega
      have hdt : decide ((q : Int) < (V.size : Int)) = true := decide_eq_true hi1
      have HDr := Lib.hid (drop_byte V q hlt)
      have hfu2 : ((bys V).drop (q + 1)).length < g := by have := congrArg List.length (drop_byte V q hlt); rw [List.length_cons] at this; omega
      rw [HDr.out] at HTe
      have HPut : Hid (Cu (wr.setCell ⟨B, 1, none⟩ (.int .i64 ((q : Int) + 1))) B V (q + 1) ∧ FrS wr.heap.size (fun k => k = B) wr (wr.setCell ⟨B, 1, none⟩ (.int .i64 ((q : Int) + 1)))) :=
        ⟨Cu.put HCu.out (q + 1), (FrS.refl wr.heap.size (fun k => k = B) wr).put (p := ⟨B, 1, none⟩) (.inr rfl) _⟩
      have HFin : Hid (∀ W w' j, FrS wr.heap.size (fun k => k = B) wr W → Cu W B V j → FrX (B + 2) (B + 1) W w' → FrS B (fun _ => False) w1 w' ∧ Cu w' B V j ∧ B + 2 ≤ w'.heap.size) := fun W w' j h1 h2 h3 =>
        ⟨(HFr.out.trans (h1.weak (by omega) fun k hk e => by omega)).trans (FrS.weak (FrS.of_x (S := fun k => k = B + 1) h3 rfl) (by omega) fun k hk e => by omega), Cu.fr h2 (FrS.of_x (S := fun k => k = B + 1) h3 rfl) (by omega) (by omega), by have := h1.size; have := h3.size; omega⟩
      have hxn := (bt_nn (V[q]'hlt)).1
      have HEr : Hid (∀ W, FrS wr.heap.size (fun k => k = B) wr W → FrS w.heap.size (fun k => k = cb) w W) := fun W h => HF1.out.trans ((HFr.out.trans (h.weak (by omega) fun k hk e => by omega)).weak (by have := HBq.out; omega) fun _ _ e => e.elim)
      by_cases hx35 : V[q]'hlt = 35
      · have q35 : (((V[q]'hlt).toNat : Int) == 35) = true := by rw [hx35]; rfl
        have HPr : Hid (Calls Tryd.prog 59 #[.pointer (some ⟨B, 0, none⟩)] (wr.setCell ⟨B, 1, none⟩ (.int .i64 ((q : Int) + 1))) (PairPost V B (q + 1) (wr.setCell ⟨B, 1, none⟩ (.int .i64 ((q : Int) + 1))))) := pair_any V B (q + 1) _ HPut.out.1 (by omega) (by omega)
        unfold PairPost at HPr
        have HTx2 : Hid (T2 = match pairV ((bys V).drop (q + 1)) with | none => .error 5 | some v => if v == 0 then .error 5 else nameF g (((bys V).drop (q + 1)).drop 2) (acc ++ [v])) := by
          unfold Hid
          rw [← HTe.out, nameF, if_pos (by simpa using hx35)]
          cases pairV ((bys V).drop (q + 1)) <;> rfl
        clear hx35
        cases hpv : pairV ((bys V).drop (q + 1)) with
        | none =>
          rw [hpv] at HPr HTx2
          have HSt : Hid (T2 = .error 5) := HTx2.out
          clear hpv HTx2
          go_wp2_with fail
          refine HPr.out.mono ?_
          rintro e w3 ⟨r, ok, rfl, ht, -, hf3⟩
          cases ok with
          | true => obtain ⟨v, h, _⟩ := ht rfl; cases h
          | false =>
            have HF3 := Lib.hid (HPut.out.2.trans (hf3.weak (R' := wr.heap.size) (S' := fun k => k = B) (by have := HPut.out.2.size; exact this) fun _ _ e => e))
            clear ht hf3
            go_wp2_with fail
            refine bodyPost_ret (v := .tuple #[.string ⟨#[]⟩, .int .i64 5]) (by simp [results, Tryd.results47, go_sem]) rfl ?_
            exact txt_bad (by rw [HN.out, HT.out, HSt.out]) (HEr.out _ HF3.out) rfl
        | some v =>
          rw [hpv] at HPr HTx2
          dsimp only at HTx2
          have hk1 : q + 3 ≤ V.size := by
            have : 2 ≤ ((bys V).drop (q + 1)).length := by
              match (bys V).drop (q + 1), hpv with
              | a :: b :: r, _ => simp
            rw [List.length_drop, bys_len] at this; omega
          have hlt3 : ((bys V).drop (q + 1 + 2)).length < g := by rw [List.length_drop, bys_len] at hfu2 ⊢; omega
          rw [List.drop_drop] at HTx2
          clear hpv
          by_cases hv0 : v = 0
          · have HSt : Hid (T2 = .error 5) := by unfold Hid; rw [HTx2.out, if_pos (by simpa using hv0)]
            clear HTx2
            go_wp2_with fail
            refine HPr.out.mono ?_
            rintro e w3 ⟨r, ok, rfl, ht, hn, hf3⟩
            cases ok with
            | false => cases hn rfl
            | true =>
              obtain ⟨v', h1, rfl, -⟩ := ht rfl
              obtain rfl := Option.some.inj h1
              have HF3 := Lib.hid (HPut.out.2.trans (hf3.weak (R' := wr.heap.size) (S' := fun k => k = B) (by have := HPut.out.2.size; exact this) fun _ _ e => e))
              have q0 : (bt v == 0) = true := by rw [hv0]; rfl
              clear ht hn hf3 h1 hv0
              go_wp2_with fail
              refine bodyPost_ret (v := .tuple #[.string ⟨#[]⟩, .int .i64 5]) (by simp [results, Tryd.results47, go_sem]) rfl ?_
              exact txt_bad (by rw [HN.out, HT.out, HSt.out]) (HEr.out _ HF3.out) rfl
          · have HSt : Hid (nameF g ((bys V).drop (q + 1 + 2)) (acc ++ [v]) = T2) := by unfold Hid; rw [HTx2.out, if_neg (by simpa using hv0)]
            clear HTx2
            go_wp2_with fail
            refine HPr.out.mono ?_
            rintro e w3 ⟨r, ok, rfl, ht, hn, hf3⟩
            cases ok with
            | false => cases hn rfl
            | true =>
              obtain ⟨v', h1, rfl, hcu3⟩ := ht rfl
              obtain rfl := Option.some.inj h1
              have HF3 := Lib.hid (HPut.out.2.trans (hf3.weak (R' := wr.heap.size) (S' := fun k => k = B) (by have := HPut.out.2.size; exact this) fun _ _ e => e))
              have HC3 := Lib.hid hcu3
              have q0 : (bt v == 0) = false := by
                rw [beq_eq_false_iff_ne]; exact fun e => hv0 (bt_inj e)
              have hvn := (bt_nn v).1
              clear ht hn hf3 h1 hv0 hcu3
              go_wp2_with fail
              refine (HWB.out _ v HF3.out).mono ?_
              rintro e w3 ⟨rfl, hpk2, hfx⟩
              obtain ⟨hf2, hc2, hs2⟩ := HFin.out _ _ _ HF3.out HC3.out hfx
              have HF2 := Lib.hid hf2
              have HC2 := Lib.hid hc2
              have HPk2 := Lib.hid hpk2
              have HMe := Lib.hid (HMea.out _ _ hc2 (by omega) hlt)
              clear hf2 hc2 hpk2 hfx
              go_wp2_with fail
              exact ⟨⟨trivial, q + 1 + 2, g, acc ++ [v], by omega, by rw [List.length_append, List.length_singleton]; omega, HC2.out, HPk2.out, hlt3, HSt.out, HF2.out, hs2⟩, HMe.out⟩
      · have q35 : (((V[q]'hlt).toNat : Int) == 35) = false := bt_ne (V[q]'hlt) 35 hx35
        by_cases hx1 : V[q]'hlt < 33
        · have HSt : Hid (T2 = .error 5) := by
            unfold Hid
            rw [← HTe.out, nameF, if_neg (by simpa using hx35), if_pos (by simp [hx1])]
          have q33 : (((V[q]'hlt).toNat : Int) < 33) := by have := UInt8.lt_iff_toNat_lt.1 hx1; have h33 : (33 : UInt8).toNat = 33 := rfl; omega
          clear hx35 hx1
          go_wp2_with fail
          refine bodyPost_ret (v := .tuple #[.string ⟨#[]⟩, .int .i64 5]) (by simp [results, Tryd.results47, go_sem]) rfl ?_
          exact txt_bad (by rw [HN.out, HT.out, HSt.out]) (HEr.out _ HPut.out.2) rfl
        · have q33 : ¬ (((V[q]'hlt).toNat : Int) < 33) := fun e => hx1 (UInt8.lt_iff_toNat_lt.2 (by have h33 : (33 : UInt8).toNat = 33 := rfl; omega))
          by_cases hx2 : 126 < V[q]'hlt
          · have HSt : Hid (T2 = .error 5) := by
              unfold Hid
              rw [← HTe.out, nameF, if_neg (by simpa using hx35), if_pos (by simp [hx2])]
            have q126 : ((126 : Int) < ((V[q]'hlt).toNat : Int)) := by have := UInt8.lt_iff_toNat_lt.1 hx2; have h126 : (126 : UInt8).toNat = 126 := rfl; omega
            clear hx35 hx1 hx2
            go_wp2_with fail
            refine bodyPost_ret (v := .tuple #[.string ⟨#[]⟩, .int .i64 5]) (by simp [results, Tryd.results47, go_sem]) rfl ?_
            exact txt_bad (by rw [HN.out, HT.out, HSt.out]) (HEr.out _ HPut.out.2) rfl
          · have q126 : ¬ ((126 : Int) < ((V[q]'hlt).toNat : Int)) := fun e => hx2 (UInt8.lt_iff_toNat_lt.2 (by have h126 : (126 : UInt8).toNat = 126 := rfl; omega))
            have HSt : Hid (nameF g ((bys V).drop (q + 1)) (acc ++ [V[q]'hlt]) = T2) := by
              unfold Hid
              rw [← HTe.out, nameF, if_neg (by simpa using hx35), if_neg (by simp [hx1, hx2])]
            clear hx35 hx1 hx2
            go_wp2_with fail
            refine (HWB.out _ (V[q]'hlt) HPut.out.2).mono ?_
            rintro e w3 ⟨rfl, hpk2, hfx⟩
            obtain ⟨hf2, hc2, hs2⟩ := HFin.out _ _ _ HPut.out.2 HPut.out.1 hfx
            have HF2 := Lib.hid hf2
            have HC2 := Lib.hid hc2
            have HPk2 := Lib.hid hpk2
            have HMe := Lib.hid (HMea.out _ _ hc2 (by omega) hlt)
            clear hf2 hc2 hpk2 hfx
            go_wp2_with fail
            exact ⟨⟨trivial, q + 1, g, acc ++ [(V[q]'hlt)], by omega, by rw [List.length_append, List.length_singleton]; omega, HC2.out, HPk2.out, hfu2, HSt.out, HF2.out, hs2⟩, HMe.out⟩
    · have hqe : q = V.size := by omega
      have HSt : Hid (T2 = .ok acc) := by
        unfold Hid
        rw [← HTe.out, List.drop_eq_nil_of_le (by rw [bys_len]; omega)]; rfl
      have HLen := Lib.hid (pk_len HPk.out)
      have HEr : Hid (∀ W, FrX (B + 2) (B + 1) wr W → FrS w.heap.size (fun k => k = cb) w W) := fun W h => HF1.out.trans ((HFr.out.trans ((FrS.of_x (S := fun k => k = B + 1) h rfl).weak (by omega) fun k hk e => by omega)).weak (by have := HBq.out; omega) fun _ _ e => e.elim)
      have hwB : Hid (FrX (B + 2) (B + 1) wr wr) := FrX.of_below (Below.refl (B + 2) wr) (Nat.le_refl _)
      have HCl : Hid (∀ Z, FrX (B + 2) (B + 1) wr Z → Cu Z cb S (p + W.length)) := fun Z h => (HC1.out.fr (HFr.out.trans ((FrS.of_x (S := fun k => k = B + 1) h rfl).weak (by omega) fun k hk e => by omega)) (by have := HBq.out; omega) id)
      subst hqe
      clear hlt
      by_cases h0 : acc.length = 0
      · have HSt2 : Hid (T = .error 5) := by unfold Hid; rw [HN.out, HT.out, HSt.out]; dsimp only; rw [if_pos h0]
        have he : ((acc.length : Int) == 0) = true := by rw [h0]; rfl
        clear h0
        go_wp2_with fail
        refine HLen.out.mono ?_
        rintro e w3 ⟨rfl, rfl⟩
        go_wp2_with fail
        refine bodyPost_ret (v := .tuple #[.string ⟨#[]⟩, .int .i64 5]) (by simp [results, Tryd.results47, go_sem]) rfl ?_
        exact txt_bad HSt2.out (HEr.out _ hwB.out) rfl
      · have he : ((acc.length : Int) == 0) = false := by rw [beq_eq_false_iff_ne]; omega
        have HStr := Lib.hid (pk_string HPk.out)
        have HLim := Lib.hid fun W => limited_any acc 31 W
        by_cases hL : 31 < acc.length
        · have HSt2 : Hid (T = .error 2) := by unfold Hid; rw [HN.out, HT.out, HSt.out]; dsimp only; rw [if_neg h0, if_pos hL]
          rw [if_pos hL, if_pos hL] at HLim
          generalize hsv : (⟨acc.toArray⟩ : ByteArray) = sv at *
          have HSv := Lib.hid hsv
          clear hsv h0 hL
          go_wp2_with fail
          refine HLen.out.mono ?_
          rintro e w3 ⟨rfl, rfl⟩
          go_wp2_with fail
          refine HStr.out.mono ?_
          rintro e w4 ⟨rfl, hfx⟩
          have HFx := Lib.hid hfx
          clear hfx
          go_wp2_with fail
          refine (HLim.out _).mono ?_
          rintro e w5 ⟨rfl, rfl⟩
          go_wp2_with fail
          refine bodyPost_ret (v := .tuple #[.string ⟨#[]⟩, .int .i64 2]) (by simp [results, Tryd.results47, go_sem]) rfl ?_
          exact txt_bad HSt2.out (HEr.out _ HFx.out) rfl
        · have HSt2 : Hid (T = .ok (acc, W.length)) := by unfold Hid; rw [HN.out, HT.out, HSt.out]; dsimp only; rw [if_neg h0, if_neg hL]
          rw [if_neg hL, if_neg hL] at HLim
          generalize hsv : (⟨acc.toArray⟩ : ByteArray) = sv at *
          have HSv := Lib.hid hsv
          clear hsv h0 hL
          go_wp2_with fail
          refine HLen.out.mono ?_
          rintro e w3 ⟨rfl, rfl⟩
          go_wp2_with fail
          refine HStr.out.mono ?_
          rintro e w4 ⟨rfl, hfx⟩
          have HFx := Lib.hid hfx
          clear hfx
          go_wp2_with fail
          refine (HLim.out _).mono ?_
          rintro e w5 ⟨rfl, rfl⟩
          go_wp2_with fail
          refine bodyPost_ret (v := .tuple #[.string sv, .int .i64 0]) (by simp [results, Tryd.results47, go_sem]) rfl ?_
          rw [← HSv.out]
          exact txt_ok HSt2.out (HEr.out _ HFx.out) rfl (HCl.out _ HFx.out)
end Go.Proofs.YtenhaohooknkfaaDoor
