/- Whether a string has a byte that is no digit: ContainsFunc's answer, in plain words. The walks of the cursor's run and pair. The walk of the cursor's pair. The closures of integer and reference, and what ContainsFunc answers with them. What Atoi answers for the words that are integers, in plain words. The walk of the cursor's escape (printed by gen_esc.py). The walks of limited and of the cursor's text. -/
import Derived.Test.YthbdhijkdldmoaaGreatDoorTokCur
import Derived.Test.YthbdhijkdldmoaaGreatDoorLaid2
import Derived.BigQuiet
import Derived.BigRegion
import Derived.RegionTactic
import Derived.Test.YthbdhijkdldmoaaGreatDoorTokPlain
import Derived.Lib.Atoi
namespace Go.Proofs.YthbdhijkdldmoaaGreatDoor
open Go.RowKit Tk
def notD (r : Nat) : Bool := decide (r < 48) || decide (57 < r)
theorem dec_small (s : ByteArray) (i : Nat) (h : (s.get! i).toNat < 128) : Utf8.decode s i = ((s.get! i).toNat, 1) := by
  unfold Utf8.decode
  dsimp only
  exact if_pos h
theorem dec_big (s : ByteArray) (i : Nat) (h : 128 ≤ (s.get! i).toNat) : 128 ≤ (Utf8.decode s i).1 := by
  unfold Utf8.decode
  dsimp only
  rw [if_neg (show ¬ (s.get! (i + 0)).toNat < 128 by rw [Nat.add_zero]; omega)]
  have he : 128 ≤ Utf8.runeError := by decide
  split
  · split
    · assumption
    · exact he
  · split
    · split
      · rename_i h2; simp at h2 ⊢; omega
      · exact he
    · split
      · split
        · rename_i h2; simp at h2 ⊢; omega
        · exact he
      · exact he
theorem get_byte (S : ByteArray) (p : Nat) (h : p < S.size) : S.get! p = S[p]'h := by
  have := idx_byte S p h
  unfold bys at this
  have h2 : p < S.data.size := h
  rw [Array.getElem?_toList, Array.getElem?_eq_getElem h2] at this
  exact (Option.some.inj this).symm
theorem digit_notD (c : UInt8) : notD c.toNat = !digit c := by
  have := u8_all (fun c => notD c.toNat == !digit c) (by decide +kernel) c
  simpa using this
theorem idx_from (S : ByteArray) : ∀ (f pos : Nat), S.size ≤ pos + f → decide (0 ≤ Lib.idxFuncFrom notD true S f pos) = !(((bys S).drop pos).all digit)
  | 0, pos, h => by
    rw [List.drop_eq_nil_of_le (by rw [bys_len]; omega)]
    rfl
  | f + 1, pos, h => by
    unfold Lib.idxFuncFrom
    by_cases hp : pos < S.size
    · rw [if_pos hp, drop_byte S pos hp, List.all_cons, ← get_byte S pos hp]
      by_cases hb : (S.get! pos).toNat < 128
      · rw [dec_small S pos hb]
        dsimp only
        rw [digit_notD]
        cases hd : digit (S.get! pos) with
        | false => rw [if_pos (show (!false) = true from rfl), decide_eq_true (by omega)]; rfl
        | true => rw [if_neg (by decide), idx_from S f (pos + 1) (by omega)]; simp
      · have h1 := dec_big S pos (by omega)
        have h2 : notD (Utf8.decode S pos).1 = true := by unfold notD; rw [Bool.or_eq_true]; exact .inr (decide_eq_true (by omega))
        have h3 : digit (S.get! pos) = false := by
          have := digit_notD (S.get! pos)
          unfold notD at this
          rw [show (decide ((S.get! pos).toNat < 48) || decide (57 < (S.get! pos).toNat)) = true by rw [Bool.or_eq_true]; exact .inr (decide_eq_true (by omega))] at this
          cases hd : digit (S.get! pos) with
          | false => rfl
          | true => rw [hd] at this; cases this
        rw [h2, if_pos rfl, h3, decide_eq_true (by omega)]; rfl
    · rw [if_neg hp, List.drop_eq_nil_of_le (by rw [bys_len]; omega)]; rfl
theorem idx_digits (S : ByteArray) : decide (0 ≤ Lib.idxFunc notD true S) = !((bys S).all digit) := by
  unfold Lib.idxFunc
  exact idx_from S S.size 0 (by omega)
end Go.Proofs.YthbdhijkdldmoaaGreatDoor
namespace Go.Proofs.YthbdhijkdldmoaaGreatDoor
open Go.RowKit Tk
/-! The run of regular bytes. -/
theorem run_nil : run [] = [] := rfl
theorem run_step (x : UInt8) (r : Tk.Src) : run (x :: r) = if regular x then x :: run r else [] := by
  unfold run; rw [List.takeWhile_cons]
theorem ext_run (S : ByteArray) (p q : Nat) : S.extract p q = ⟨(((bys S).drop p).take (q - p)).toArray⟩ := by
  apply ByteArray.ext
  rw [ByteArray.data_extract]
  apply Array.ext'
  simp only [Array.toList_extract, List.extract_eq_take_drop]
  rfl
theorem run_len (l : Tk.Src) : (run l).length ≤ l.length := by
  obtain ⟨b, h, _⟩ := run_split l
  have := congrArg List.length h
  rw [List.length_append] at this; omega
theorem run_take (l : Tk.Src) : l.take (run l).length = run l := by
  obtain ⟨b, h, _⟩ := run_split l
  have h2 := congrArg (List.take (run l).length) h
  rw [List.take_left] at h2
  exact h2
set_option maxHeartbeats 4000000 in
theorem run_any (S : ByteArray) (cb p : Nat) (w : World) (h : Cu w cb S p) (hp : p ≤ S.size) (hs : S.size ≤ 1000000) :
    Calls Tryz.prog 106 #[.pointer (some ⟨cb, 0, none⟩)] w fun e w' => e = .returned (.string ⟨(run ((bys S).drop p)).toArray⟩) ∧ Cu w' cb S (p + (run ((bys S).drop p)).length) ∧ FrS w.heap.size (fun k => k = cb) w w' := by
  have HC := Lib.hid h
  obtain ⟨c0, c1, cf, cl⟩ := h.cells
  clear h
  go_enter Tryz.func106, Tryz.ntmps106
  go_wp2_with fail
  go_loopw [] (fun wq => True ∧ ∃ (q : Nat), p ≤ q ∧ q ≤ S.size ∧ Cu wq cb S q ∧ q + (run ((bys S).drop q)).length = p + (run ((bys S).drop p)).length ∧ FrS w.heap.size (fun k => k = cb) w wq) (fun wq => S.size - (intOf ((wq.cell? ⟨cb, 1, none⟩).getD .nilIface)).toNat)
  case atStart => exact ⟨trivial, p, Nat.le_refl _, hp, HC.out, rfl, FrS.refl _ _ _⟩
  case round =>
    obtain ⟨-, q, hpq, hq, hcu, hsk, hfr⟩ := hrel
    have HCu := Lib.hid hcu
    have HFr := Lib.hid hfr
    have HSk := Lib.hid hsk
    obtain ⟨c0, c1, cf, cl⟩ := hcu.cells
    have HEnd : Hid ((run ((bys S).drop q)).length = 0 → (⟨(run ((bys S).drop p)).toArray⟩ : ByteArray) = S.extract p q ∧ Cu wr cb S (p + (run ((bys S).drop p)).length) ∧ FrS w.heap.size (fun k => k = cb) w wr) := fun h0 => by
      have h1 : q = p + (run ((bys S).drop p)).length := by omega
      refine ⟨?_, by rw [← h1]; exact HCu.out, HFr.out⟩
      rw [ext_run, show q - p = (run ((bys S).drop p)).length by omega, run_take]
    have hqi : (p : Int) ≤ (q : Int) := by omega
    have hqs : (q : Int) ≤ (S.size : Int) := by omega
    have hp0 : (0 : Int) ≤ (p : Int) := by omega
    clear hcu hfr hsk
    by_cases hlt : q < S.size
    · have hlt' : (q : Int) < (S.size : Int) := by omega
      have hd : decide ((q : Int) < (S.size : Int)) = true := decide_eq_true hlt'
      have HDr := Lib.hid (drop_byte S q hlt)
      have HR := Lib.hid fun W => regular_any (S[q]'hlt) W
      have HPut : Hid (∀ k, Cu ((wr.drewN k).setCell ⟨cb, 1, none⟩ (.int .i64 ((q : Int) + 1))) cb S (q + 1) ∧ FrS w.heap.size (fun k => k = cb) w ((wr.drewN k).setCell ⟨cb, 1, none⟩ (.int .i64 ((q : Int) + 1)))) := fun k =>
        ⟨Cu.put (w := wr.drewN k) HCu.out (q + 1), (HFr.out.drewN k).put (.inr rfl) _⟩
      have HMe : Hid (∀ k, S.size - (intOf ((((wr.drewN k).setCell ⟨cb, 1, none⟩ (.int .i64 ((q : Int) + 1))).cell? ⟨cb, 1, none⟩).getD .nilIface)).toNat < S.size - (intOf ((wr.cell? ⟨cb, 1, none⟩).getD .nilIface)).toNat) := fun k => by
        have h1 := (HPut.out k).1.cells.2.1
        rw [h1, c1]
        simp [intOf]; omega
      cases hr : regular (S[q]'hlt)
      · rw [hr] at HR
        have hE := HEnd.out (by rw [HDr.out, run_step, hr]; rfl)
        have HE := Lib.hid hE
        clear hE
        go_wp2_with fail
        go_quiet ((go_at_call 42; refine Calls.quiet_of_same ((HR.out _).mono fun _ _ h => ⟨h.1, h.2.symm⟩)))
        go_wp2_with fail
        go_region
        go_wp2_with fail
        refine bodyPost_ret (v := .string (S.extract p q)) (by simp [results, Tryz.results106, go_sem]) rfl ?_
        exact ⟨by rw [HE.out.1], Blk.drewN HE.out.2.1 _, HE.out.2.2.drewN _⟩
      · rw [hr] at HR
        go_wp2_with fail
        go_quiet ((go_at_call 42; refine Calls.quiet_of_same ((HR.out _).mono fun _ _ h => ⟨h.1, h.2.symm⟩)))
        go_wp2_with fail
        refine ⟨⟨trivial, q + 1, by omega, by omega, (HPut.out _).1, ?_, (HPut.out _).2⟩, HMe.out _⟩
        rw [← HSk.out, HDr.out, run_step, hr, if_pos rfl, List.length_cons]; omega
    · have hqe : q = S.size := by omega
      subst hqe
      have hE := HEnd.out (by rw [List.drop_eq_nil_of_le (by rw [bys_len]; omega)]; rfl)
      have HE := Lib.hid hE
      clear hE hlt hqs hq
      go_wp2_with fail
      go_region
      go_wp2_with fail
      go_region
      go_wp2_with fail
      refine bodyPost_ret (v := .string (S.extract p S.size)) (by simp [results, Tryz.results106, go_sem]) rfl ?_
      exact ⟨by rw [HE.out.1], Blk.drew (Blk.drew HE.out.2.1), HE.out.2.2.drew.drew⟩
end Go.Proofs.YthbdhijkdldmoaaGreatDoor
namespace Go.Proofs.YthbdhijkdldmoaaGreatDoor
open Go.RowKit Tk
theorem hex_two (c : UInt8) : ∃ (v : UInt8) (ok : Bool), hexR c = .tuple #[.int .u8 (bt v), .bool ok] ∧ bt v ≤ 15 ∧ (ok = true → hexV c = some v) ∧ (ok = false → hexV c = none) := by
  have hb := u8_all (fun c => match hexV c with | some v => decide (bt v ≤ 15) | none => true) (by decide +kernel) c
  unfold hexR
  cases h : hexV c with
  | none => exact ⟨0, false, rfl, by decide, fun e => (by cases e), fun _ => rfl⟩
  | some v =>
    rw [h] at hb
    exact ⟨v, true, rfl, by simpa using hb, fun _ => rfl, fun e => (by cases e)⟩
theorem or_fin : ∀ i j : Fin 16, bits BinOp.or IntKind.u8 ((i.val : Int) * 16) (j.val : Int) = bt (UInt8.ofNat i.val <<< 4 ||| UInt8.ofNat j.val) := by decide +kernel
theorem or_hex (a b : UInt8) (ha : bt a ≤ 15) (hb : bt b ≤ 15) : bits BinOp.or IntKind.u8 (bt a * 16) (bt b) = bt (a <<< 4 ||| b) := by
  unfold bt at ha hb ⊢
  have h := or_fin ⟨a.toNat, by omega⟩ ⟨b.toNat, by omega⟩
  dsimp only at h
  rw [UInt8.ofNat_toNat, UInt8.ofNat_toNat] at h
  exact h
theorem pair_some {a b x y : UInt8} {r : Tk.Src} (h1 : hexV a = some x) (h2 : hexV b = some y) : pairV (a :: b :: r) = some (x <<< 4 ||| y) := by
  show (match hexV a, hexV b with | some x, some y => some (x <<< 4 ||| y) | _, _ => none) = _
  rw [h1, h2]
theorem pair_none1 {a b : UInt8} {r : Tk.Src} (h1 : hexV a = none) : pairV (a :: b :: r) = none := by
  show (match hexV a, hexV b with | some x, some y => some (x <<< 4 ||| y) | _, _ => none) = _
  rw [h1]
theorem pair_none2 {a b : UInt8} {r : Tk.Src} (h1 : hexV b = none) : pairV (a :: b :: r) = none := by
  show (match hexV a, hexV b with | some x, some y => some (x <<< 4 ||| y) | _, _ => none) = _
  rw [h1]; cases hexV a <;> rfl
def PairPost (S : ByteArray) (cb p : Nat) (w : World) (e : Ending) (w' : World) : Prop :=
  ∃ (r : Int) (ok : Bool), e = .returned (.tuple #[.int .u8 r, .bool ok]) ∧ (ok = true → ∃ v, pairV ((bys S).drop p) = some v ∧ r = bt v ∧ Cu w' cb S (p + 2)) ∧ (ok = false → pairV ((bys S).drop p) = none) ∧ FrS w.heap.size (fun k => k = cb) w w'
set_option maxHeartbeats 4000000 in
theorem pair_any (S : ByteArray) (cb p : Nat) (w : World) (h : Cu w cb S p) (hp : p ≤ S.size) (hs : S.size ≤ 1000000) :
    Calls Tryz.prog 124 #[.pointer (some ⟨cb, 0, none⟩)] w (PairPost S cb p w) := by
  have HC := Lib.hid h
  obtain ⟨c0, c1, cf, cl⟩ := h.cells
  clear h
  by_cases hlt : p + 2 ≤ S.size
  · have h1 : p < S.size := by omega
    have h2 : p + 1 < S.size := by omega
    have hi1 : (p : Int) < (S.size : Int) := by omega
    have hi2 : (p : Int) + 1 < (S.size : Int) := by omega
    have hi0 : (0 : Int) ≤ (p : Int) := by omega
    have hgt : ¬ (S.size : Int) < (p : Int) + 2 := by omega
    have hix : ∀ W, (Instr.index 9 (.string S) (.int .i64 ((p : Int) + 1))).run Tryz.prog W = .ok (.int .u8 ((S[p + 1]'h2).toNat : Int)) W := fun W => by
      rw [show ((p : Int) + 1) = ((p + 1 : Nat) : Int) from rfl]
      unfold Instr.index
      have h0 : (0 : Int) ≤ (p : Int) + 1 := by omega
      simp [go_sem, h2, h0]
    obtain ⟨v1, o1, e1, b1, t1, f1⟩ := hex_two (S[p]'h1)
    obtain ⟨v2, o2, e2, b2, t2, f2⟩ := hex_two (S[p + 1]'h2)
    have HX1 := Lib.hid fun W => hex_any (S[p]'h1) W
    have HX2 := Lib.hid fun W => hex_any (S[p + 1]'h2) W
    rw [e1] at HX1
    rw [e2] at HX2
    have hnn1 := (bt_nn v1).1
    have hnn2 := (bt_nn v2).1
    have HDr1 := Lib.hid (drop_byte S p h1)
    have HDr2 := Lib.hid (drop_byte S (p + 1) h2)
    have HT := Lib.hid (show (o1 = true → hexV (S[p]'h1) = some v1) ∧ (o1 = false → hexV (S[p]'h1) = none) ∧ (o2 = true → hexV (S[p + 1]'h2) = some v2) ∧ (o2 = false → hexV (S[p + 1]'h2) = none) from ⟨t1, f1, t2, f2⟩)
    clear e1 e2 t1 f1 t2 f2
    generalize hn1 : bt v1 = n1 at *
    generalize hn2 : bt v2 = n2 at *
    have HN1 := Lib.hid hn1
    have HN2 := Lib.hid hn2
    clear hn1 hn2
    go_enter Tryz.func124, Tryz.ntmps124
    go_wp2_with fail
    go_quiet (fail)
    go_wp2_with fail
    generalize hwa : w.drewN nq = wa
    have HWa := Lib.hid hwa
    have c0 : wa.cell? ⟨cb, 0, none⟩ = some (.string S) := by rw [← hwa]; exact c0
    have c1 : wa.cell? ⟨cb, 1, none⟩ = some (.int .i64 p) := by rw [← hwa]; exact c1
    have cf : wa.frozen? ⟨cb, 1, none⟩ = false := by rw [← hwa]; exact cf
    have cl : cb < wa.heap.size := by rw [← hwa]; exact cl
    clear hwa
    go_quiet ((go_at_call 127; refine Calls.quiet_of_same ((HX1.out _).mono fun _ _ h => ⟨h.1, h.2.symm⟩)))
    go_wp2_with fail
    generalize hwb : wa.drewN nq = wb
    have HWb := Lib.hid hwb
    have c0 : wb.cell? ⟨cb, 0, none⟩ = some (.string S) := by rw [← hwb]; exact c0
    have c1 : wb.cell? ⟨cb, 1, none⟩ = some (.int .i64 p) := by rw [← hwb]; exact c1
    have cf : wb.frozen? ⟨cb, 1, none⟩ = false := by rw [← hwb]; exact cf
    have cl : cb < wb.heap.size := by rw [← hwb]; exact cl
    clear hwb
    go_quiet ((go_at_call 127; refine Calls.quiet_of_same ((HX2.out _).mono fun _ _ h => ⟨h.1, h.2.symm⟩)))
    go_wp2_with fail
    all_goals
      have HCb : Hid (Cu (wb.drewN nq) cb S p) := by rw [← HWb.out, ← HWa.out]; exact HC.out
      have HFb : Hid (FrS w.heap.size (fun k => k = cb) w (wb.drewN nq)) := by rw [← HWb.out, ← HWa.out]; exact (((FrS.refl _ _ w).drewN _).drewN _).drewN _
    · refine bodyPost_ret (v := .tuple #[.int .u8 (bits BinOp.or IntKind.u8 (n1 * 16) n2), .bool o2]) (by simp [results, Tryz.results124, go_sem]) rfl ?_
      refine ⟨_, o2, rfl, fun ho => ⟨v1 <<< 4 ||| v2, ?_, ?_, Cu.put HCb.out (p + 2)⟩, fun ho => ?_, HFb.out.put (.inr rfl) _⟩
      · rw [HDr1.out, HDr2.out]
        exact pair_some (HT.out.1 (by assumption)) (HT.out.2.2.1 ho)
      · rw [← HN1.out, ← HN2.out]; exact or_hex v1 v2 (by rw [HN1.out]; exact b1) (by rw [HN2.out]; exact b2)
      · rw [HDr1.out, HDr2.out]
        exact pair_none2 (HT.out.2.2.2 ho)
    · refine bodyPost_ret (v := .tuple #[.int .u8 (bits BinOp.or IntKind.u8 (n1 * 16) n2), .bool false]) (by simp [results, Tryz.results124, go_sem]) rfl ?_
      refine ⟨_, false, rfl, fun ho => (by cases ho), fun ho => ?_, HFb.out.put (.inr rfl) _⟩
      rw [HDr1.out, HDr2.out]
      exact pair_none1 (HT.out.2.1 (by simpa using (by assumption : ¬ o1 = true)))
  · have hgt : (S.size : Int) < (p : Int) + 2 := by omega
    have hnone : pairV ((bys S).drop p) = none := by
      have hl : ((bys S).drop p).length ≤ 1 := by rw [List.length_drop, bys_len]; omega
      match (bys S).drop p, hl with
      | [], _ => rfl
      | [a], _ => rfl
      | a :: b :: r, h => exact absurd h (by simp)
    have HNo := Lib.hid hnone
    clear hnone
    go_enter Tryz.func124, Tryz.ntmps124
    go_wp2_with fail
    go_quiet (fail)
    go_wp2_with fail
    refine bodyPost_ret (v := .tuple #[.int .u8 0, .bool false]) (by simp [results, Tryz.results124, go_sem]) rfl ?_
    exact ⟨0, false, rfl, fun ho => (by cases ho), fun _ => HNo.out, (FrS.refl _ _ w).drewN _⟩
end Go.Proofs.YthbdhijkdldmoaaGreatDoor
namespace Go.Proofs.YthbdhijkdldmoaaGreatDoor
open Go.RowKit Tk
theorem enterI : ∀ args w, (callFunc 123 args).run Tryz.prog w = .ok (.enter 123 args) w := fun args w => by go_simp
theorem cloI (W : World) (x : Nat) : FnGives Tryz.prog 123 #[] #[encR x] (.bool (notD x)) W := by
  unfold FnGives encR notD
  by_cases h1 : x < 48
  · have h2 : (x : Int) < 48 := by omega
    rw [decide_eq_true h1]
    go_enter Tryz.func123, Tryz.ntmps123
    go_wp2
    go_ret
    exact ⟨rfl, 0, rfl⟩
  · have h2 : ¬ (x : Int) < 48 := by omega
    rw [decide_eq_false h1, Bool.false_or, show decide (57 < x) = decide ((57 : Int) < (x : Int)) from decide_eq_decide.2 (by omega)]
    go_enter Tryz.func123, Tryz.ntmps123
    go_wp2
    go_ret
    exact ⟨rfl, 0, rfl⟩
theorem enterR : ∀ args w, (callFunc 125 args).run Tryz.prog w = .ok (.enter 125 args) w := fun args w => by go_simp
theorem cloR (W : World) (x : Nat) : FnGives Tryz.prog 125 #[] #[encR x] (.bool (notD x)) W := by
  unfold FnGives encR notD
  by_cases h1 : x < 48
  · have h2 : (x : Int) < 48 := by omega
    rw [decide_eq_true h1]
    go_enter Tryz.func125, Tryz.ntmps125
    go_wp2
    go_ret
    exact ⟨rfl, 0, rfl⟩
  · have h2 : ¬ (x : Int) < 48 := by omega
    rw [decide_eq_false h1, Bool.false_or, show decide (57 < x) = decide ((57 : Int) < (x : Int)) from decide_eq_decide.2 (by omega)]
    go_enter Tryz.func125, Tryz.ntmps125
    go_wp2
    go_ret
    exact ⟨rfl, 0, rfl⟩
theorem hasI (S : ByteArray) (w : World) : Calls Tryz.prog 122 #[.string S, .func (.func 123) #[] #[]] w fun e w' => e = .returned (.bool (!((bys S).all digit))) ∧ Below w.heap.size w w' := by
  have h := strings_ContainsFunc 123 #[] enterI notD S w fun W x _ => cloI W x
  rw [idx_digits] at h
  exact h
theorem hasR (S : ByteArray) (w : World) : Calls Tryz.prog 122 #[.string S, .func (.func 125) #[] #[]] w fun e w' => e = .returned (.bool (!((bys S).all digit))) ∧ Below w.heap.size w w' := by
  have h := strings_ContainsFunc 125 #[] enterR notD S w fun W x _ => cloR W x
  rw [idx_digits] at h
  exact h
end Go.Proofs.YthbdhijkdldmoaaGreatDoor
namespace Go.Proofs.YthbdhijkdldmoaaGreatDoor
namespace Tk
theorem digitVal_of (c : UInt8) (h : digit c = true) : Lib.digitVal c = some (c.toNat - 48) := by
  have := u8_all (fun c => !digit c || (Lib.digitVal c == some (c.toNat - 48))) (by decide +kernel) c
  rw [h] at this; simpa using this
theorem decFrom_of : ∀ (d : Tk.Src) (a : Nat), d.all digit = true → Lib.decFrom a d = some (d.foldl (fun n c => n * 10 + (c.toNat - 48)) a)
  | [], a, _ => rfl
  | c :: d, a, h => by
    rw [List.all_cons, Bool.and_eq_true] at h
    unfold Lib.decFrom
    rw [digitVal_of c h.1]
    dsimp only
    rw [decFrom_of d _ h.2]; rfl
theorem decNat_of {d : Tk.Src} (h0 : d ≠ []) (h : d.all digit = true) : Lib.decNat d = some (natV d) := by
  unfold Lib.decNat
  rw [decFrom_of d 0 h]
  cases d with
  | nil => exact absurd rfl h0
  | cons x r => rfl
theorem atoi_of {w : Tk.Src} (h0 : (digs w).length ≠ 0) (h : (digs w).all digit = true) : Lib.atoi w = some (intV w) := by
  cases w with
  | nil => exact absurd rfl h0
  | cons x r =>
    unfold Lib.atoi intV
    dsimp only
    by_cases e1 : x = 45
    · subst e1
      have e2 : digs (45 :: r) = r := rfl
      rw [e2] at h0 h
      rw [if_pos (by decide), if_pos (by decide), decNat_of (fun e => h0 (by rw [e]; rfl)) h]; rfl
    · by_cases e4 : x = 43
      · subst e4
        have e2 : digs (43 :: r) = r := rfl
        rw [e2] at h0 h
        rw [if_neg (by decide), if_pos (by decide), if_neg (by decide), if_pos (by decide), decNat_of (fun e => h0 (by rw [e]; rfl)) h]; rfl
      · have e2 : digs (x :: r) = x :: r := by unfold digs signed; simp [e1, e4]
        rw [e2] at h0 h
        rw [if_neg (by simpa using e1), if_neg (by simpa using e4), if_neg (by simpa using e1), if_neg (by simpa using e4), decNat_of (by simp) h]; rfl
end Tk
end Go.Proofs.YthbdhijkdldmoaaGreatDoor
namespace Go.Proofs.YthbdhijkdldmoaaGreatDoor
open Go.RowKit Tk
def EscPost (S : ByteArray) (cb b R p : Nat) (acc : Tk.Src) (w : World) (e : Ending) (w' : World) : Prop :=
  FrS R (fun k => k = cb ∨ k = b) w w' ∧ match esc ((bys S).drop p) with
    | .error er => e = .returned (.int .i64 er)
    | .ok (bs, k) => e = .returned (.int .i64 0) ∧ Cu w' cb S (p + k) ∧ Pk R b (acc ++ bs) w'
theorem esc_post_ok {S : ByteArray} {cb b R p k : Nat} {acc bs : Tk.Src} {w w' : World} {e : Ending} (h : esc ((bys S).drop p) = .ok (bs, k)) (hf : FrS R (fun k => k = cb ∨ k = b) w w') (he : e = .returned (.int .i64 0)) (hc : Cu w' cb S (p + k)) (hp : Pk R b (acc ++ bs) w') : EscPost S cb b R p acc w e w' := by
  unfold EscPost; rw [h]; exact ⟨hf, he, hc, hp⟩
theorem esc_post_bad {S : ByteArray} {cb b R p : Nat} {acc : Tk.Src} {er : Int} {w w' : World} {e : Ending} (h : esc ((bys S).drop p) = .error er) (hf : FrS R (fun k => k = cb ∨ k = b) w w') (he : e = .returned (.int .i64 er)) : EscPost S cb b R p acc w e w' := by
  unfold EscPost; rw [h]; exact ⟨hf, he⟩
set_option maxHeartbeats 8000000 in
theorem escape_any (S : ByteArray) (cb b R p : Nat) (acc : Tk.Src) (w : World) (h : Cu w cb S p) (hp : p ≤ S.size) (hs : S.size ≤ 1000000) (hk : Pk R b acc w) (hl : acc.length ≤ 1000000) (hR : R ≤ w.heap.size) (hcb : cb ≠ b) (hcR : cb < R) :
    Calls Tryz.prog 126 #[.pointer (some ⟨cb, 0, none⟩), .pointer (some ⟨b, 0, none⟩)] w (EscPost S cb b R p acc w) := by
  have HC := Lib.hid h
  obtain ⟨c0, c1, cf, cl⟩ := h.cells
  have HWB : Hid (∀ W c, FrS w.heap.size (fun k => k = cb) w W → Calls Tryz.prog 43 #[.pointer (some ⟨b, 0, none⟩), .int .u8 (bt c)] W fun e w' => e = .returned .nilIface ∧ Pk R b (acc ++ [c]) w' ∧ FrX R b W w') := fun W c hf =>
    (pk_byte (hk.fr hf (Nat.le_refl _) fun k e => by omega) c (bt c) rfl (by omega) (Nat.le_trans hR hf.size)).mono fun _ _ h => ⟨h.1, h.2.1, h.2.2.1⟩
  have HPk := Lib.hid hk
  clear h hk
  by_cases hlt : p < S.size
  · have hi1 : (p : Int) < (S.size : Int) := by omega
    have hne : ((p : Int) == (S.size : Int)) = false := by rw [beq_eq_false_iff_ne]; omega
    have HDr := Lib.hid (drop_byte S p hlt)
    have HPut : Hid (∀ n, Cu ((w.drewN n).setCell ⟨cb, 1, none⟩ (.int .i64 ((p : Int) + 1))) cb S (p + 1) ∧ FrS w.heap.size (fun k => k = cb) w ((w.drewN n).setCell ⟨cb, 1, none⟩ (.int .i64 ((p : Int) + 1)))) := fun n =>
      ⟨Cu.put (w := w.drewN n) HC.out (p + 1), ((FrS.refl w.heap.size (fun k => k = cb) w).drewN n).put (p := ⟨cb, 1, none⟩) (.inr rfl) _⟩
    have HFin : Hid (∀ W w', FrS w.heap.size (fun k => k = cb) w W → Cu W cb S (p + 1) → FrX R b W w' → FrS R (fun k => k = cb ∨ k = b) w w' ∧ Cu w' cb S (p + 1)) := fun W w' h1 h2 h3 =>
      ⟨(h1.weak hR fun _ _ e => .inl e).trans (FrS.of_x h3 (.inr rfl)), Cu.fr h2 (FrS.of_x (S := fun k => k = b) h3 rfl) hcR hcb⟩
    have HPair := Lib.hid fun W (h : Cu W cb S (p + 1)) => pair_any S cb (p + 1) W h (by omega) hs
    have HKeep : Hid (∀ W, FrS w.heap.size (fun k => k = cb) w W → Pk R b acc W) := fun W hf => HPk.out.fr hf (Nat.le_refl _) fun k e => by omega
    unfold PairPost at HPair
    by_cases hx10 : S[p]'hlt = 10
    · have q10 : (((S[p]'hlt).toNat : Int) == 10) = true := by rw [hx10]; rfl
      have q110 : (((S[p]'hlt).toNat : Int) == 110) = false := by rw [hx10]; rfl
      have q116 : (((S[p]'hlt).toNat : Int) == 116) = false := by rw [hx10]; rfl
      have q92 : (((S[p]'hlt).toNat : Int) == 92) = false := by rw [hx10]; rfl
      have q40 : (((S[p]'hlt).toNat : Int) == 40) = false := by rw [hx10]; rfl
      have q41 : (((S[p]'hlt).toNat : Int) == 41) = false := by rw [hx10]; rfl
      have q120 : (((S[p]'hlt).toNat : Int) == 120) = false := by rw [hx10]; rfl
      have HX := Lib.hid hx10
      clear hx10
      go_enter Tryz.func126, Tryz.ntmps126
      go_wp2_with fail
      go_quiet (fail)
      go_wp2_with fail
      go_quiet (fail)
      go_wp2_with fail
      refine bodyPost_ret (v := .int .i64 0) (by simp [results, Tryz.results126, go_sem]) rfl ?_
      refine esc_post_ok (bs := []) (k := 1) (by rw [HDr.out, HX.out]; rfl) (((HPut.out _).2).weak hR fun _ _ e => .inl e) rfl (HPut.out _).1 (by rw [List.append_nil]; exact HKeep.out _ (HPut.out _).2)
    · by_cases hx110 : S[p]'hlt = 110
      · have q10 : (((S[p]'hlt).toNat : Int) == 10) = false := by rw [hx110]; rfl
        have q110 : (((S[p]'hlt).toNat : Int) == 110) = true := by rw [hx110]; rfl
        have q116 : (((S[p]'hlt).toNat : Int) == 116) = false := by rw [hx110]; rfl
        have q92 : (((S[p]'hlt).toNat : Int) == 92) = false := by rw [hx110]; rfl
        have q40 : (((S[p]'hlt).toNat : Int) == 40) = false := by rw [hx110]; rfl
        have q41 : (((S[p]'hlt).toNat : Int) == 41) = false := by rw [hx110]; rfl
        have q120 : (((S[p]'hlt).toNat : Int) == 120) = false := by rw [hx110]; rfl
        have HX := Lib.hid hx110
        clear hx110
        have hbt : ((S[p]'hlt).toNat : Int) = 110 := by rw [HX.out]; rfl
        go_enter Tryz.func126, Tryz.ntmps126
        go_wp2_with fail
        go_quiet (fail)
        go_wp2_with fail
        go_quiet (fail)
        go_wp2_with fail
        refine (HWB.out _ 10 (HPut.out _).2).mono ?_
        rintro e w2 ⟨rfl, hpk, hfx⟩
        obtain ⟨hf2, hc2⟩ := HFin.out _ _ (HPut.out _).2 (HPut.out _).1 hfx
        have HF2 := Lib.hid hf2
        have HC2 := Lib.hid hc2
        have HPk2 := Lib.hid hpk
        clear hf2 hc2 hpk hfx
        go_wp2_with fail
        refine bodyPost_ret (v := .int .i64 0) (by simp [results, Tryz.results126, go_sem]) rfl ?_
        exact esc_post_ok (bs := [10]) (k := 1) (by rw [HDr.out, HX.out]; rfl) HF2.out rfl HC2.out HPk2.out
      · by_cases hx116 : S[p]'hlt = 116
        · have q10 : (((S[p]'hlt).toNat : Int) == 10) = false := by rw [hx116]; rfl
          have q110 : (((S[p]'hlt).toNat : Int) == 110) = false := by rw [hx116]; rfl
          have q116 : (((S[p]'hlt).toNat : Int) == 116) = true := by rw [hx116]; rfl
          have q92 : (((S[p]'hlt).toNat : Int) == 92) = false := by rw [hx116]; rfl
          have q40 : (((S[p]'hlt).toNat : Int) == 40) = false := by rw [hx116]; rfl
          have q41 : (((S[p]'hlt).toNat : Int) == 41) = false := by rw [hx116]; rfl
          have q120 : (((S[p]'hlt).toNat : Int) == 120) = false := by rw [hx116]; rfl
          have HX := Lib.hid hx116
          clear hx116
          have hbt : ((S[p]'hlt).toNat : Int) = 116 := by rw [HX.out]; rfl
          go_enter Tryz.func126, Tryz.ntmps126
          go_wp2_with fail
          go_quiet (fail)
          go_wp2_with fail
          go_quiet (fail)
          go_wp2_with fail
          refine (HWB.out _ 9 (HPut.out _).2).mono ?_
          rintro e w2 ⟨rfl, hpk, hfx⟩
          obtain ⟨hf2, hc2⟩ := HFin.out _ _ (HPut.out _).2 (HPut.out _).1 hfx
          have HF2 := Lib.hid hf2
          have HC2 := Lib.hid hc2
          have HPk2 := Lib.hid hpk
          clear hf2 hc2 hpk hfx
          go_wp2_with fail
          refine bodyPost_ret (v := .int .i64 0) (by simp [results, Tryz.results126, go_sem]) rfl ?_
          exact esc_post_ok (bs := [9]) (k := 1) (by rw [HDr.out, HX.out]; rfl) HF2.out rfl HC2.out HPk2.out
        · by_cases hx92 : S[p]'hlt = 92
          · have q10 : (((S[p]'hlt).toNat : Int) == 10) = false := by rw [hx92]; rfl
            have q110 : (((S[p]'hlt).toNat : Int) == 110) = false := by rw [hx92]; rfl
            have q116 : (((S[p]'hlt).toNat : Int) == 116) = false := by rw [hx92]; rfl
            have q92 : (((S[p]'hlt).toNat : Int) == 92) = true := by rw [hx92]; rfl
            have q40 : (((S[p]'hlt).toNat : Int) == 40) = false := by rw [hx92]; rfl
            have q41 : (((S[p]'hlt).toNat : Int) == 41) = false := by rw [hx92]; rfl
            have q120 : (((S[p]'hlt).toNat : Int) == 120) = false := by rw [hx92]; rfl
            have HX := Lib.hid hx92
            clear hx92
            have hbt : ((S[p]'hlt).toNat : Int) = 92 := by rw [HX.out]; rfl
            go_enter Tryz.func126, Tryz.ntmps126
            go_wp2_with fail
            go_quiet (fail)
            go_wp2_with fail
            go_quiet (fail)
            go_wp2_with fail
            refine (HWB.out _ 92 (HPut.out _).2).mono ?_
            rintro e w2 ⟨rfl, hpk, hfx⟩
            obtain ⟨hf2, hc2⟩ := HFin.out _ _ (HPut.out _).2 (HPut.out _).1 hfx
            have HF2 := Lib.hid hf2
            have HC2 := Lib.hid hc2
            have HPk2 := Lib.hid hpk
            clear hf2 hc2 hpk hfx
            go_wp2_with fail
            refine bodyPost_ret (v := .int .i64 0) (by simp [results, Tryz.results126, go_sem]) rfl ?_
            exact esc_post_ok (bs := [92]) (k := 1) (by rw [HDr.out, HX.out]; rfl) HF2.out rfl HC2.out HPk2.out
          · by_cases hx40 : S[p]'hlt = 40
            · have q10 : (((S[p]'hlt).toNat : Int) == 10) = false := by rw [hx40]; rfl
              have q110 : (((S[p]'hlt).toNat : Int) == 110) = false := by rw [hx40]; rfl
              have q116 : (((S[p]'hlt).toNat : Int) == 116) = false := by rw [hx40]; rfl
              have q92 : (((S[p]'hlt).toNat : Int) == 92) = false := by rw [hx40]; rfl
              have q40 : (((S[p]'hlt).toNat : Int) == 40) = true := by rw [hx40]; rfl
              have q41 : (((S[p]'hlt).toNat : Int) == 41) = false := by rw [hx40]; rfl
              have q120 : (((S[p]'hlt).toNat : Int) == 120) = false := by rw [hx40]; rfl
              have HX := Lib.hid hx40
              clear hx40
              have hbt : ((S[p]'hlt).toNat : Int) = 40 := by rw [HX.out]; rfl
              go_enter Tryz.func126, Tryz.ntmps126
              go_wp2_with fail
              go_quiet (fail)
              go_wp2_with fail
              go_quiet (fail)
              go_wp2_with fail
              refine (HWB.out _ 40 (HPut.out _).2).mono ?_
              rintro e w2 ⟨rfl, hpk, hfx⟩
              obtain ⟨hf2, hc2⟩ := HFin.out _ _ (HPut.out _).2 (HPut.out _).1 hfx
              have HF2 := Lib.hid hf2
              have HC2 := Lib.hid hc2
              have HPk2 := Lib.hid hpk
              clear hf2 hc2 hpk hfx
              go_wp2_with fail
              refine bodyPost_ret (v := .int .i64 0) (by simp [results, Tryz.results126, go_sem]) rfl ?_
              exact esc_post_ok (bs := [40]) (k := 1) (by rw [HDr.out, HX.out]; rfl) HF2.out rfl HC2.out HPk2.out
            · by_cases hx41 : S[p]'hlt = 41
              · have q10 : (((S[p]'hlt).toNat : Int) == 10) = false := by rw [hx41]; rfl
                have q110 : (((S[p]'hlt).toNat : Int) == 110) = false := by rw [hx41]; rfl
                have q116 : (((S[p]'hlt).toNat : Int) == 116) = false := by rw [hx41]; rfl
                have q92 : (((S[p]'hlt).toNat : Int) == 92) = false := by rw [hx41]; rfl
                have q40 : (((S[p]'hlt).toNat : Int) == 40) = false := by rw [hx41]; rfl
                have q41 : (((S[p]'hlt).toNat : Int) == 41) = true := by rw [hx41]; rfl
                have q120 : (((S[p]'hlt).toNat : Int) == 120) = false := by rw [hx41]; rfl
                have HX := Lib.hid hx41
                clear hx41
                have hbt : ((S[p]'hlt).toNat : Int) = 41 := by rw [HX.out]; rfl
                go_enter Tryz.func126, Tryz.ntmps126
                go_wp2_with fail
                go_quiet (fail)
                go_wp2_with fail
                go_quiet (fail)
                go_wp2_with fail
                refine (HWB.out _ 41 (HPut.out _).2).mono ?_
                rintro e w2 ⟨rfl, hpk, hfx⟩
                obtain ⟨hf2, hc2⟩ := HFin.out _ _ (HPut.out _).2 (HPut.out _).1 hfx
                have HF2 := Lib.hid hf2
                have HC2 := Lib.hid hc2
                have HPk2 := Lib.hid hpk
                clear hf2 hc2 hpk hfx
                go_wp2_with fail
                refine bodyPost_ret (v := .int .i64 0) (by simp [results, Tryz.results126, go_sem]) rfl ?_
                exact esc_post_ok (bs := [41]) (k := 1) (by rw [HDr.out, HX.out]; rfl) HF2.out rfl HC2.out HPk2.out
              · by_cases hx120 : S[p]'hlt = 120
                · have q10 : (((S[p]'hlt).toNat : Int) == 10) = false := by rw [hx120]; rfl
                  have q110 : (((S[p]'hlt).toNat : Int) == 110) = false := by rw [hx120]; rfl
                  have q116 : (((S[p]'hlt).toNat : Int) == 116) = false := by rw [hx120]; rfl
                  have q92 : (((S[p]'hlt).toNat : Int) == 92) = false := by rw [hx120]; rfl
                  have q40 : (((S[p]'hlt).toNat : Int) == 40) = false := by rw [hx120]; rfl
                  have q41 : (((S[p]'hlt).toNat : Int) == 41) = false := by rw [hx120]; rfl
                  have q120 : (((S[p]'hlt).toNat : Int) == 120) = true := by rw [hx120]; rfl
                  have HX := Lib.hid hx120
                  clear hx120
                  have hex : esc ((bys S).drop p) = match pairV ((bys S).drop (p + 1)) with | some v => .ok ([v], 3) | none => .error 5 := by rw [HDr.out, HX.out]; rfl
                  have HEx := Lib.hid hex
                  clear hex
                  go_enter Tryz.func126, Tryz.ntmps126
                  go_wp2_with fail
                  go_quiet (fail)
                  go_wp2_with fail
                  go_quiet (fail)
                  go_wp2_with fail
                  refine (HPair.out _ (HPut.out _).1).mono ?_
                  rintro e w2 ⟨r, ok, rfl, hok, hbad, hf⟩
                  have hf2 : FrS w.heap.size (fun k => k = cb) w w2 := (HPut.out _).2.trans (hf.weak (HPut.out _).2.size fun _ _ h => h)
                  have HF2 := Lib.hid hf2
                  clear hf hf2
                  cases ok with
                  | true =>
                    obtain ⟨v, hv, rfl, hcu⟩ := hok rfl
                    have HV : Hid (esc ((bys S).drop p) = .ok ([v], 3)) := by unfold Hid; rw [HEx.out, hv]
                    have HCu := Lib.hid hcu
                    have HWb := Lib.hid (HWB.out w2 v HF2.out)
                    clear hok hbad hv hcu
                    generalize hbv : bt v = n at *
                    clear hbv
                    go_wp2_with fail
                    refine HWb.out.mono ?_
                    rintro e w3 ⟨rfl, hpk, hfx⟩
                    have HF3 := Lib.hid ((HF2.out.weak hR fun _ _ e => .inl e).trans (FrS.of_x (S := fun k => k = cb ∨ k = b) hfx (.inr rfl)))
                    have HC3 := Lib.hid (Cu.fr HCu.out (FrS.of_x (S := fun k => k = b) hfx rfl) hcR hcb)
                    have HPk3 := Lib.hid hpk
                    clear hpk hfx
                    go_wp2_with fail
                    refine bodyPost_ret (v := .int .i64 0) (by simp [results, Tryz.results126, go_sem]) rfl ?_
                    exact esc_post_ok HV.out HF3.out rfl HC3.out HPk3.out
                  | false =>
                    have HV : Hid (esc ((bys S).drop p) = .error 5) := by unfold Hid; rw [HEx.out, hbad rfl]
                    clear hok hbad
                    go_wp2_with fail
                    refine bodyPost_ret (v := .int .i64 5) (by simp [results, Tryz.results126, go_sem]) rfl ?_
                    exact esc_post_bad HV.out (HF2.out.weak hR fun _ _ e => .inl e) rfl
                · have q10 : (((S[p]'hlt).toNat : Int) == 10) = false := bt_ne (S[p]'hlt) 10 hx10
                  have q110 : (((S[p]'hlt).toNat : Int) == 110) = false := bt_ne (S[p]'hlt) 110 hx110
                  have q116 : (((S[p]'hlt).toNat : Int) == 116) = false := bt_ne (S[p]'hlt) 116 hx116
                  have q92 : (((S[p]'hlt).toNat : Int) == 92) = false := bt_ne (S[p]'hlt) 92 hx92
                  have q40 : (((S[p]'hlt).toNat : Int) == 40) = false := bt_ne (S[p]'hlt) 40 hx40
                  have q41 : (((S[p]'hlt).toNat : Int) == 41) = false := bt_ne (S[p]'hlt) 41 hx41
                  have q120 : (((S[p]'hlt).toNat : Int) == 120) = false := bt_ne (S[p]'hlt) 120 hx120
                  have HNs := Lib.hid (And.intro hx10 (And.intro hx110 (And.intro hx116 (And.intro hx92 (And.intro hx40 (And.intro hx41 hx120))))))
                  clear hx10 hx110 hx116 hx92 hx40 hx41 hx120
                  go_enter Tryz.func126, Tryz.ntmps126
                  go_wp2_with fail
                  go_quiet (fail)
                  go_wp2_with fail
                  go_quiet (fail)
                  go_wp2_with fail
                  refine bodyPost_ret (v := .int .i64 5) (by simp [results, Tryz.results126, go_sem]) rfl ?_
                  refine esc_post_bad (er := 5) ?_ (((HPut.out _).2).weak hR fun _ _ e => .inl e) rfl
                  rw [HDr.out]
                  obtain ⟨h1, h2, h3, h4, h5, h6, h7⟩ := HNs.out
                  simp only [esc]
                  rw [if_neg (by simpa using h1), if_neg (by simpa using h2), if_neg (by simpa using h3), if_neg (by simp [h4, h5, h6]), if_neg (by simpa using h7)]
  · have hqe : p = S.size := by omega
    subst hqe
    have hnone : esc ((bys S).drop S.size) = .error 12 := by rw [List.drop_eq_nil_of_le (by rw [bys_len]; omega)]; rfl
    have HNo := Lib.hid hnone
    clear hnone hlt
    go_enter Tryz.func126, Tryz.ntmps126
    go_wp2_with fail
    go_quiet (fail)
    go_wp2_with fail
    refine bodyPost_ret (v := .int .i64 12) (by simp [results, Tryz.results126, go_sem]) rfl ?_
    exact esc_post_bad HNo.out ((FrS.refl R (fun k => k = cb ∨ k = b) w).drewN _) rfl
end Go.Proofs.YthbdhijkdldmoaaGreatDoor
namespace Go.Proofs.YthbdhijkdldmoaaGreatDoor
open Go.RowKit Tk
theorem esc_err {l : Tk.Src} {er : Int} (h : esc l = .error er) : er ≠ 0 := by
  cases l with
  | nil => cases h; decide
  | cons x r =>
    simp only [esc] at h
    repeat' split at h
    all_goals first | (cases h; done) | (cases h; decide)
theorem limited_any (l : Tk.Src) (most : Nat) (w : World) : Calls Tryz.prog 103 #[.string ⟨l.toArray⟩, .int .i64 most] w fun e w' => e = .returned (.tuple #[.string ⟨(if most < l.length then [] else l).toArray⟩, .int .i64 (if most < l.length then 2 else 0)]) ∧ w = w' := by
  have hz : (⟨l.toArray⟩ : ByteArray).size = l.length := by simp [ByteArray.size]
  by_cases h : most < l.length
  · rw [if_pos h, if_pos h]
    generalize (⟨l.toArray⟩ : ByteArray) = s at *
    have h2 : (most : Int) < (s.size : Int) := by omega
    clear hz h
    go_enter Tryz.func103, Tryz.ntmps103
    go_wp2
    go_ret2
    exact ⟨rfl, rfl⟩
  · rw [if_neg h, if_neg h]
    generalize (⟨l.toArray⟩ : ByteArray) = s at *
    have h2 : ¬ (most : Int) < (s.size : Int) := by omega
    clear hz h
    go_enter Tryz.func103, Tryz.ntmps103
    go_wp2
    go_ret2
    exact ⟨rfl, rfl⟩
/-- What a reading answers: a string, or an error. -/
def TxtPost (S : ByteArray) (cb p : Nat) (r : Res Tk.Src) (w : World) (e : Ending) (w' : World) : Prop :=
  FrS w.heap.size (fun k => k = cb) w w' ∧ match r with
    | .error er => e = .returned (.tuple #[.string ⟨#[]⟩, .int .i64 er])
    | .ok (t, n) => e = .returned (.tuple #[.string ⟨t.toArray⟩, .int .i64 0]) ∧ Cu w' cb S (p + n)
theorem txt_ok {S : ByteArray} {cb p n : Nat} {t : Tk.Src} {r : Res Tk.Src} {w w' : World} {e : Ending} (h : r = .ok (t, n)) (hf : FrS w.heap.size (fun k => k = cb) w w') (he : e = .returned (.tuple #[.string ⟨t.toArray⟩, .int .i64 0])) (hc : Cu w' cb S (p + n)) : TxtPost S cb p r w e w' := by
  unfold TxtPost; rw [h]; exact ⟨hf, he, hc⟩
theorem txt_bad {S : ByteArray} {cb p : Nat} {er : Int} {r : Res Tk.Src} {w w' : World} {e : Ending} (h : r = .error er) (hf : FrS w.heap.size (fun k => k = cb) w w') (he : e = .returned (.tuple #[.string ⟨#[]⟩, .int .i64 er])) : TxtPost S cb p r w e w' := by
  unfold TxtPost; rw [h]; exact ⟨hf, he⟩
set_option maxHeartbeats 8000000 in
theorem text_any (S : ByteArray) (cb p : Nat) (w : World) (h : Cu w cb S p) (hp : p ≤ S.size) (hs : S.size ≤ 100000) :
    Calls Tryz.prog 109 #[.pointer (some ⟨cb, 0, none⟩)] w (TxtPost S cb p (text ((bys S).drop p)) w) := by
  have hcl := h.cells.2.2.2
  have hb1 := (FrS.refl w.heap.size (fun k => k = cb) w).alloc (Nat.le_refl _) (.cells #[.pointer none, .slice none 0 0] 77)
  have hc1 := Blk.alloc h (.cells #[.pointer none, .slice none 0 0] 77)
  have hk1 : Pk (w.heap.size + 1) w.heap.size [] (w.alloc (.cells #[.pointer none, .slice none 0 0] 77)) := pk_fresh (Blk.new w _ _)
  have hs1 : Hid ((w.alloc (.cells #[.pointer none, .slice none 0 0] 77)).heap.size = w.heap.size + 1) := by unfold Hid; simp
  have HB1 := Lib.hid hb1
  have HC1 : Hid (Cu (w.alloc (.cells #[.pointer none, .slice none 0 0] 77)) cb S p) := hc1
  have HK1 := Lib.hid hk1
  have HPost : Hid (∀ e w', TxtPost S cb p (text ((bys S).drop p)) w e w' → TxtPost S cb p (text ((bys S).drop p)) w e w') := fun _ _ h => h
  have HTx : Hid (text ((bys S).drop p) = textF (((bys S).drop p).length + 1) 1 ((bys S).drop p) [] 0) := rfl
  generalize text ((bys S).drop p) = T at *
  clear h hb1 hc1 hk1
  go_enter Tryz.func109, Tryz.ntmps109
  go_wp2_with fail
  generalize w.alloc (.cells #[.pointer none, .slice none 0 0] 77) = w1 at *
  go_loopw [5, 6, 7, 35, 42, 48] (fun v5 _ _ _ _ _ wq => True ∧ ∃ (q d f n0 : Nat) (acc : Tk.Src), v5 = .int .i64 d ∧ 1 ≤ d ∧ d ≤ 16 ∧ q ≤ S.size ∧ q = p + n0 ∧ acc.length ≤ n0 ∧ Cu wq cb S q ∧ Pk (w.heap.size + 1) w.heap.size acc wq ∧ ((bys S).drop q).length < f ∧ textF f d ((bys S).drop q) acc n0 = T ∧ FrS w.heap.size (fun k => k = cb) w wq ∧ w.heap.size + 1 ≤ wq.heap.size) (fun _ _ _ _ _ _ wq => S.size - (intOf ((wq.cell? ⟨cb, 1, none⟩).getD .nilIface)).toNat)
  case atStart => exact ⟨trivial, p, 1, ((bys S).drop p).length + 1, 0, [], rfl, Nat.le_refl _, by omega, hp, rfl, Nat.le_refl _, HC1.out, HK1.out, by omega, HTx.out.symm, HB1.out, by rw [hs1.out]; exact Nat.le_refl _⟩
  case round =>
    obtain ⟨-, q, d, f, n0, acc, rfl, hd1, hd2, hq, hqn, hal, hcu, hpk, hfu, htx, hfr, hsz⟩ := hrel
    have HQn := Lib.hid hqn
    have hn0 : n0 ≤ q := by omega
    clear hqn
    obtain ⟨c0, c1, cf, cl⟩ := hcu.cells
    obtain ⟨g, rfl⟩ : ∃ g, f = g + 1 := ⟨f - 1, by omega⟩
    have HCu := Lib.hid hcu
    have HFr := Lib.hid hfr
    have HTe := Lib.hid htx
    have HWB : Hid (∀ W c, FrS wr.heap.size (fun k => k = cb) wr W → Calls Tryz.prog 43 #[.pointer (some ⟨w.heap.size, 0, none⟩), .int .u8 (bt c)] W fun e w' => e = .returned .nilIface ∧ Pk (w.heap.size + 1) w.heap.size (acc ++ [c]) w' ∧ FrX (w.heap.size + 1) w.heap.size W w') := fun W c hf =>
      (pk_byte (hpk.fr hf (Nat.le_refl _) fun k e => by omega) c (bt c) rfl (by omega) (Nat.le_trans hsz hf.size)).mono fun _ _ h => ⟨h.1, h.2.1, h.2.2.1⟩
    have HKeep : Hid (∀ W, FrS wr.heap.size (fun k => k = cb) wr W → Pk (w.heap.size + 1) w.heap.size acc W) := fun W hf => hpk.fr hf (Nat.le_refl _) fun k e => by omega
    have HPk := Lib.hid hpk
    have HMea : Hid (∀ W : World, Cu W cb S (q + 1) → q < S.size → S.size - (intOf ((W.cell? ⟨cb, 1, none⟩).getD .nilIface)).toNat < S.size - (intOf ((wr.cell? ⟨cb, 1, none⟩).getD .nilIface)).toNat) := fun W h hq => by
      rw [h.cells.2.1, c1]
      simp [intOf]; omega
    clear hcu hfr htx hpk
    by_cases hlt : q < S.size
    · have hi1 : (q : Int) < (S.size : Int) := by omega
      have hdt : decide ((q : Int) < (S.size : Int)) = true := decide_eq_true hi1
      have HDr := Lib.hid (drop_byte S q hlt)
      have hfu2 : ((bys S).drop (q + 1)).length < g := by have := congrArg List.length (drop_byte S q hlt); rw [List.length_cons] at this; omega
      rw [HDr.out] at HTe
      have HMea := Lib.hid fun W h => HMea.out W h hlt
      have HPut : Hid (∀ n, Cu ((wr.drewN n).setCell ⟨cb, 1, none⟩ (.int .i64 ((q : Int) + 1))) cb S (q + 1) ∧ FrS wr.heap.size (fun k => k = cb) wr ((wr.drewN n).setCell ⟨cb, 1, none⟩ (.int .i64 ((q : Int) + 1)))) := fun n =>
        ⟨Cu.put (w := wr.drewN n) HCu.out (q + 1), ((FrS.refl wr.heap.size (fun k => k = cb) wr).drewN n).put (p := ⟨cb, 1, none⟩) (.inr rfl) _⟩
      have HFin : Hid (∀ W w', FrS wr.heap.size (fun k => k = cb) wr W → Cu W cb S (q + 1) → FrX (w.heap.size + 1) w.heap.size W w' → FrS w.heap.size (fun k => k = cb) w w' ∧ Cu w' cb S (q + 1) ∧ w.heap.size + 1 ≤ w'.heap.size) := fun W w' h1 h2 h3 =>
        ⟨(HFr.out.trans (h1.weak (by omega) fun _ _ e => e)).trans (FrS.weak (FrS.of_x (S := fun k => k = w.heap.size) h3 rfl) (Nat.le_succ _) fun k hk e => by omega), Cu.fr h2 (FrS.of_x (S := fun k => k = w.heap.size) h3 rfl) (by omega) (by omega), by have := h1.size; have := h3.size; omega⟩
      by_cases hx92 : S[q]'hlt = 92
      · have q92 : (((S[q]'hlt).toNat : Int) == 92) = true := by rw [hx92]; rfl
        have q40 : (((S[q]'hlt).toNat : Int) == 40) = false := by rw [hx92]; rfl
        have q41 : (((S[q]'hlt).toNat : Int) == 41) = false := by rw [hx92]; rfl
        have HEsc : Hid (∀ n, Calls Tryz.prog 126 #[.pointer (some ⟨cb, 0, none⟩), .pointer (some ⟨w.heap.size, 0, none⟩)] ((wr.drewN n).setCell ⟨cb, 1, none⟩ (.int .i64 ((q : Int) + 1))) (EscPost S cb w.heap.size (w.heap.size + 1) (q + 1) acc ((wr.drewN n).setCell ⟨cb, 1, none⟩ (.int .i64 ((q : Int) + 1))))) := fun n => escape_any S cb w.heap.size (w.heap.size + 1) (q + 1) acc _ (HPut.out n).1 (by omega) (by omega) (HKeep.out _ (HPut.out n).2) (by omega) (by have := (HPut.out n).2.size; omega) (by omega) (by omega)
        unfold EscPost at HEsc
        have HTx2 : Hid (T = match esc ((bys S).drop (q + 1)) with | .error e => .error e | .ok (b, k) => textF g d (((bys S).drop (q + 1)).drop k) (acc ++ b) (n0 + 1 + k)) := by
          unfold Hid
          rw [← HTe.out, textF, if_pos (by simpa using hx92)]
          cases esc ((bys S).drop (q + 1)) <;> rfl
        clear hx92
        cases hes : esc ((bys S).drop (q + 1)) with
        | error er =>
          rw [hes] at HEsc HTx2
          dsimp only at HEsc HTx2
          have her := esc_err hes
          clear hes
          go_wp2_with fail
          go_quiet (fail)
          go_wp2_with fail
          go_quiet (fail)
          go_wp2_with fail
          refine (HEsc.out _).mono ?_
          rintro e w2 ⟨hf2, rfl⟩
          have HF2 := Lib.hid ((HFr.out.trans ((HPut.out _).2.weak (by omega) fun _ _ e => e)).trans (hf2.weak (R' := w.heap.size) (S' := fun k => k = cb) (Nat.le_succ _) fun k hk e => by rcases e with e | e; exact e; omega))
          clear hf2
          go_wp2_with fail
          refine bodyPost_ret (v := .tuple #[.string ⟨#[]⟩, .int .i64 er]) (by simp [results, Tryz.results109, go_sem]) rfl ?_
          exact txt_bad HTx2.out HF2.out rfl
        | ok bk =>
          obtain ⟨bs, k⟩ := bk
          rw [hes] at HEsc HTx2
          dsimp only at HEsc HTx2
          obtain ⟨a, r', h1, h2, h3, h4, _⟩ := esc_split hes
          have hlen := congrArg List.length h1
          rw [List.length_drop, List.length_append, bys_len] at hlen
          rw [List.drop_drop] at HTx2
          have hk1 : q + 1 + k ≤ S.size := by omega
          have hlt3 : ((bys S).drop (q + 1 + k)).length < g := by rw [List.length_drop, bys_len] at hfu2 ⊢; omega
          have hbs : (acc ++ bs).length ≤ n0 + 1 + k := by rw [List.length_append]; omega
          clear hes h1 h2 hlen h4
          go_wp2_with fail
          go_quiet (fail)
          go_wp2_with fail
          go_quiet (fail)
          go_wp2_with fail
          refine (HEsc.out _).mono ?_
          rintro e w2 ⟨hf2, rfl, hc2, hp2⟩
          have HF2 := Lib.hid ((HFr.out.trans ((HPut.out _).2.weak (by omega) fun _ _ e => e)).trans (hf2.weak (R' := w.heap.size) (S' := fun k => k = cb) (Nat.le_succ _) fun k hk e => by rcases e with e | e; exact e; omega))
          have hs2 : w.heap.size + 1 ≤ w2.heap.size := by have := hf2.size; have := (HPut.out 0).2.size; simp only [World.setCell] at *; simp at *; omega
          have HC2 := Lib.hid hc2
          have HPk2 := Lib.hid hp2
          have HMe : Hid (S.size - (intOf ((w2.cell? ⟨cb, 1, none⟩).getD .nilIface)).toNat < S.size - (intOf ((wr.cell? ⟨cb, 1, none⟩).getD .nilIface)).toNat) := by
            unfold Hid
            rw [hc2.cells.2.1, c1]
            simp [intOf]; omega
          clear hf2 hc2 hp2
          go_wp2_with fail
          exact ⟨⟨trivial, q + 1 + k, d, g, n0 + 1 + k, acc ++ bs, rfl, hd1, hd2, hk1, by have := HQn.out; omega, hbs, HC2.out, HPk2.out, hlt3, HTx2.out.symm, HF2.out, hs2⟩, HMe.out⟩
      · by_cases hx40 : S[q]'hlt = 40
        · have q92 : (((S[q]'hlt).toNat : Int) == 92) = false := by rw [hx40]; rfl
          have q40 : (((S[q]'hlt).toNat : Int) == 40) = true := by rw [hx40]; rfl
          have q41 : (((S[q]'hlt).toNat : Int) == 41) = false := by rw [hx40]; rfl
          by_cases hdd : 16 < d + 1
          · have HSt : Hid (T = .error 15) := by
              unfold Hid
              rw [← HTe.out, textF, if_neg (by simpa using hx92), if_pos (by simpa using hx40), if_pos hdd]
            obtain rfl : d = 16 := by omega
            clear hx92 hx40 hdd
            go_wp2_with fail
            go_quiet (fail)
            go_wp2_with fail
            go_quiet (fail)
            go_wp2_with fail
            refine bodyPost_ret (v := .tuple #[.string ⟨#[]⟩, .int .i64 15]) (by simp [results, Tryz.results109, go_sem]) rfl ?_
            exact txt_bad HSt.out (HFr.out.trans ((HPut.out _).2.weak (by omega) fun _ _ e => e)) rfl
          · have HSt : Hid (textF g (d + 1) ((bys S).drop (q + 1)) (acc ++ [S[q]'hlt]) (n0 + 1) = T) := by
              unfold Hid
              rw [← HTe.out, textF, if_neg (by simpa using hx92), if_pos (by simpa using hx40), if_neg hdd]
            have hde : (((d : Int) + 1) == 0) = false := by rw [beq_eq_false_iff_ne]; omega
            have hdg : decide ((16 : Int) < (d : Int) + 1) = false := decide_eq_false (by omega)
            clear hx92 hx40
            go_wp2_with fail
            go_quiet (fail)
            go_wp2_with fail
            go_quiet (fail)
            go_wp2_with fail
            refine (HWB.out _ (S[q]'hlt) (HPut.out _).2).mono ?_
            rintro e w2 ⟨rfl, hpk2, hfx⟩
            obtain ⟨hf2, hc2, hs2⟩ := HFin.out _ _ (HPut.out _).2 (HPut.out _).1 hfx
            have HF2 := Lib.hid hf2
            have HC2 := Lib.hid hc2
            have HPk2 := Lib.hid hpk2
            have HMe := Lib.hid (HMea.out _ hc2)
            clear hf2 hc2 hpk2 hfx
            go_wp2_with fail
            refine ⟨⟨trivial, q + 1, d + 1, g, n0 + 1, acc ++ [S[q]'hlt], by go_num, by omega, by omega, by omega, by have := HQn.out; omega, by rw [List.length_append, List.length_singleton]; omega, HC2.out, HPk2.out, by omega, HSt.out, HF2.out, hs2⟩, HMe.out⟩
        · by_cases hx41 : S[q]'hlt = 41
          · have q92 : (((S[q]'hlt).toNat : Int) == 92) = false := by rw [hx41]; rfl
            have q40 : (((S[q]'hlt).toNat : Int) == 40) = false := by rw [hx41]; rfl
            have q41 : (((S[q]'hlt).toNat : Int) == 41) = true := by rw [hx41]; rfl
            by_cases hdd : d = 1
            · subst hdd
              have HSt : Hid (T = limited acc 1024 (n0 + 1)) := by
                unfold Hid
                rw [← HTe.out, textF, if_neg (by simpa using hx92), if_neg (by simpa using hx40), if_pos (by simpa using hx41), if_pos rfl]
              clear hx92 hx40 hx41
              by_cases hL : 1024 < acc.length
              · have HLm := Lib.hid hL
                have HLim := Lib.hid fun W => limited_any acc 1024 W
                rw [if_pos hL, if_pos hL] at HLim
                clear hL
                go_wp2_with fail
                go_quiet (fail)
                go_wp2_with fail
                go_quiet (fail)
                go_wp2_with fail
                refine (pk_string (HKeep.out _ (HPut.out _).2)).mono ?_
                rintro e w2 ⟨rfl, hfx⟩
                obtain ⟨hf2, hc2, hs2⟩ := HFin.out _ _ (HPut.out _).2 (HPut.out _).1 hfx
                have HF3 := Lib.hid hf2
                have HC3 := Lib.hid hc2
                clear hf2 hc2 hfx
                generalize hsv : (⟨acc.toArray⟩ : ByteArray) = sv at *
                have HSv := Lib.hid hsv
                clear hsv
                go_wp2_with fail
                refine (HLim.out _).mono ?_
                rintro e w3 ⟨rfl, rfl⟩
                go_wp2_with fail
                refine bodyPost_ret (v := .tuple #[.string ⟨#[]⟩, .int .i64 2]) (by simp [results, Tryz.results109, go_sem]) rfl ?_
                exact txt_bad (by rw [HSt.out]; unfold limited; rw [if_pos HLm.out]) HF3.out rfl
              · have HLm := Lib.hid hL
                have HLim := Lib.hid fun W => limited_any acc 1024 W
                rw [if_neg hL, if_neg hL] at HLim
                clear hL
                go_wp2_with fail
                go_quiet (fail)
                go_wp2_with fail
                go_quiet (fail)
                go_wp2_with fail
                refine (pk_string (HKeep.out _ (HPut.out _).2)).mono ?_
                rintro e w2 ⟨rfl, hfx⟩
                obtain ⟨hf2, hc2, hs2⟩ := HFin.out _ _ (HPut.out _).2 (HPut.out _).1 hfx
                have HF3 := Lib.hid hf2
                have HC3 := Lib.hid hc2
                clear hf2 hc2 hfx
                generalize hsv : (⟨acc.toArray⟩ : ByteArray) = sv at *
                have HSv := Lib.hid hsv
                clear hsv
                go_wp2_with fail
                refine (HLim.out _).mono ?_
                rintro e w3 ⟨rfl, rfl⟩
                go_wp2_with fail
                refine bodyPost_ret (v := .tuple #[.string sv, .int .i64 0]) (by simp [results, Tryz.results109, go_sem]) rfl ?_
                rw [← HSv.out]
                exact txt_ok (t := acc) (n := n0 + 1) (by rw [HSt.out]; unfold limited; rw [if_neg HLm.out]) HF3.out rfl (by have := HQn.out; rw [show p + (n0 + 1) = q + 1 by omega]; exact HC3.out)
            · have HSt : Hid (textF g (d - 1) ((bys S).drop (q + 1)) (acc ++ [S[q]'hlt]) (n0 + 1) = T) := by
                unfold Hid
                rw [← HTe.out, textF, if_neg (by simpa using hx92), if_neg (by simpa using hx40), if_pos (by simpa using hx41), if_neg hdd]
              obtain ⟨d', rfl⟩ : ∃ d', d = d' + 1 := ⟨d - 1, by omega⟩
              have hd0 : 1 ≤ d' := by omega
              have hde : ((d' : Int) == 0) = false := by rw [beq_eq_false_iff_ne]; omega
              clear hx92 hx40 hx41
              go_wp2_with fail
              go_quiet (fail)
              go_wp2_with fail
              go_quiet (fail)
              go_wp2_with fail
              refine (HWB.out _ (S[q]'hlt) (HPut.out _).2).mono ?_
              rintro e w2 ⟨rfl, hpk2, hfx⟩
              obtain ⟨hf2, hc2, hs2⟩ := HFin.out _ _ (HPut.out _).2 (HPut.out _).1 hfx
              have HF2 := Lib.hid hf2
              have HC2 := Lib.hid hc2
              have HPk2 := Lib.hid hpk2
              have HMe := Lib.hid (HMea.out _ hc2)
              clear hf2 hc2 hpk2 hfx
              go_wp2_with fail
              refine ⟨⟨trivial, q + 1, d' + 1 - 1, g, n0 + 1, acc ++ [S[q]'hlt], by go_num, by omega, by omega, by omega, by have := HQn.out; omega, by rw [List.length_append, List.length_singleton]; omega, HC2.out, HPk2.out, by omega, HSt.out, HF2.out, hs2⟩, HMe.out⟩
          · have q92 : (((S[q]'hlt).toNat : Int) == 92) = false := bt_ne (S[q]'hlt) 92 hx92
            have q40 : (((S[q]'hlt).toNat : Int) == 40) = false := bt_ne (S[q]'hlt) 40 hx40
            have q41 : (((S[q]'hlt).toNat : Int) == 41) = false := bt_ne (S[q]'hlt) 41 hx41
            have HSt : Hid (textF g d ((bys S).drop (q + 1)) (acc ++ [S[q]'hlt]) (n0 + 1) = T) := by
              unfold Hid
              rw [← HTe.out, textF, if_neg (by simpa using hx92), if_neg (by simpa using hx40), if_neg (by simpa using hx41)]
            clear hx92 hx40 hx41
            go_wp2_with fail
            go_quiet (fail)
            go_wp2_with fail
            go_quiet (fail)
            go_wp2_with fail
            refine (HWB.out _ (S[q]'hlt) (HPut.out _).2).mono ?_
            rintro e w2 ⟨rfl, hpk2, hfx⟩
            obtain ⟨hf2, hc2, hs2⟩ := HFin.out _ _ (HPut.out _).2 (HPut.out _).1 hfx
            have HF2 := Lib.hid hf2
            have HC2 := Lib.hid hc2
            have HPk2 := Lib.hid hpk2
            have HMe := Lib.hid (HMea.out _ hc2)
            clear hf2 hc2 hpk2 hfx
            go_wp2_with fail
            refine ⟨⟨trivial, q + 1, d, g, n0 + 1, acc ++ [S[q]'hlt], by go_num, by omega, by omega, by omega, by have := HQn.out; omega, by rw [List.length_append, List.length_singleton]; omega, HC2.out, HPk2.out, by omega, HSt.out, HF2.out, hs2⟩, HMe.out⟩
    · have hqe : q = S.size := by omega
      have HSt : Hid (T = .error 12) := by
        unfold Hid
        rw [← HTe.out, List.drop_eq_nil_of_le (by rw [bys_len]; omega)]; rfl
      subst hqe
      clear hlt
      go_wp2_with fail
      go_quiet (fail)
      go_wp2_with fail
      refine bodyPost_ret (v := .tuple #[.string ⟨#[]⟩, .int .i64 12]) (by simp [results, Tryz.results109, go_sem]) rfl ?_
      exact txt_bad HSt.out (HFr.out.drewN _) rfl
end Go.Proofs.YthbdhijkdldmoaaGreatDoor
