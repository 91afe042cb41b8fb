/- The walk of the cursor's pair. -/
import Derived.Test.YtenhaohooknkfaaDoorTokRun
import Derived.BigQuiet
import Derived.BigRegion
import Derived.RegionTactic
namespace Go.Proofs.YtenhaohooknkfaaDoor
open Go.RowKit Tk
theorem hex_two (c : UInt8) : ∃ (v : UInt8) (ok : Bool), hexR c = .tuple #[.int .u8 (bt v), .bool ok] ∧ bt v ≤ 15 ∧ (ok = true → hexV c = some v) ∧ (ok = false → hexV c = none) := by
  have hb := u8_all (fun c => match hexV c with | some v => decide (bt v ≤ 15) | none => true) (by decide +kernel) c
  unfold hexR
  cases h : hexV c with
  | none => exact ⟨0, false, rfl, by decide, fun e => (by cases e), fun _ => rfl⟩
  | some v =>
    rw [h] at hb
    exact ⟨v, true, rfl, by simpa using hb, fun _ => rfl, fun e => (by cases e)⟩
theorem or_fin : ∀ i j : Fin 16, bits BinOp.or IntKind.u8 ((i.val : Int) * 16) (j.val : Int) = bt (UInt8.ofNat i.val <<< 4 ||| UInt8.ofNat j.val) := by decide +kernel
theorem or_hex (a b : UInt8) (ha : bt a ≤ 15) (hb : bt b ≤ 15) : bits BinOp.or IntKind.u8 (bt a * 16) (bt b) = bt (a <<< 4 ||| b) := by
  unfold bt at ha hb ⊢
  have h := or_fin ⟨a.toNat, by omega⟩ ⟨b.toNat, by omega⟩
  dsimp only at h
  rw [UInt8.ofNat_toNat, UInt8.ofNat_toNat] at h
  exact h
theorem pair_some {a b x y : UInt8} {r : Src} (h1 : hexV a = some x) (h2 : hexV b = some y) : pairV (a :: b :: r) = some (x <<< 4 ||| y) := by
  show (match hexV a, hexV b with | some x, some y => some (x <<< 4 ||| y) | _, _ => none) = _
  rw [h1, h2]
theorem pair_none1 {a b : UInt8} {r : Src} (h1 : hexV a = none) : pairV (a :: b :: r) = none := by
  show (match hexV a, hexV b with | some x, some y => some (x <<< 4 ||| y) | _, _ => none) = _
  rw [h1]
theorem pair_none2 {a b : UInt8} {r : Src} (h1 : hexV b = none) : pairV (a :: b :: r) = none := by
  show (match hexV a, hexV b with | some x, some y => some (x <<< 4 ||| y) | _, _ => none) = _
  rw [h1]; cases hexV a <;> rfl
def PairPost (S : ByteArray) (cb p : Nat) (w : World) (e : Ending) (w' : World) : Prop :=
  ∃ (r : Int) (ok : Bool), e = .returned (.tuple #[.int .u8 r, .bool ok]) ∧ (ok = true → ∃ v, pairV ((bys S).drop p) = some v ∧ r = bt v ∧ Cu w' cb S (p + 2)) ∧ (ok = false → pairV ((bys S).drop p) = none) ∧ FrS w.heap.size (fun k => k = cb) w w'
set_option maxHeartbeats 4000000 in
theorem pair_any (S : ByteArray) (cb p : Nat) (w : World) (h : Cu w cb S p) (hp : p ≤ S.size) (hs : S.size ≤ 1000000) :
    Calls Tryd.prog 59 #[.pointer (some ⟨cb, 0, none⟩)] w (PairPost S cb p w) := by
  have HC := Lib.hid h
  obtain ⟨c0, c1, cf, cl⟩ := h.cells
  clear h
  by_cases hlt : p + 2 ≤ S.size
  · have h1 : p < S.size := by omega
    have h2 : p + 1 < S.size := by omega
    have hi1 : (p : Int) < (S.size : Int) := by omega
    have hi2 : (p : Int) + 1 < (S.size : Int) := by omega
    have hi0 : (0 : Int) ≤ (p : Int) := by omega
    have hgt : ¬ (S.size : Int) < (p : Int) + 2 := by omega
    have hix : ∀ W, (Instr.index 9 (.string S) (.int .i64 ((p : Int) + 1))).run Tryd.prog W = .ok (.int .u8 ((S[p + 1]'h2).toNat : Int)) W := fun W => by
      rw [show ((p : Int) + 1) = ((p + 1 : Nat) : Int) from rfl]
      unfold Instr.index
      have h0 : (0 : Int) ≤ (p : Int) + 1 := by omega
      simp [go_sem, h2, h0]
    obtain ⟨v1, o1, e1, b1, t1, f1⟩ := hex_two (S[p]'h1)
    obtain ⟨v2, o2, e2, b2, t2, f2⟩ := hex_two (S[p + 1]'h2)
    have HX1 := Lib.hid fun W => hex_any (S[p]'h1) W
    have HX2 := Lib.hid fun W => hex_any (S[p + 1]'h2) W
    rw [e1] at HX1
    rw [e2] at HX2
    have hnn1 := (bt_nn v1).1
    have hnn2 := (bt_nn v2).1
    have HDr1 := Lib.hid (drop_byte S p h1)
    have HDr2 := Lib.hid (drop_byte S (p + 1) h2)
    have HT := Lib.hid (show (o1 = true → hexV (S[p]'h1) = some v1) ∧ (o1 = false → hexV (S[p]'h1) = none) ∧ (o2 = true → hexV (S[p + 1]'h2) = some v2) ∧ (o2 = false → hexV (S[p + 1]'h2) = none) from ⟨t1, f1, t2, f2⟩)
    clear e1 e2 t1 f1 t2 f2
    generalize hn1 : bt v1 = n1 at *
    generalize hn2 : bt v2 = n2 at *
    have HN1 := Lib.hid hn1
    have HN2 := Lib.hid hn2
    clear hn1 hn2
    go_enter Tryd.func59, Tryd.ntmps59
    go_wp2_with fail
    go_quiet (fail)
    go_wp2_with fail
    generalize hwa : w.drewN nq = wa
    have HWa := Lib.hid hwa
    have c0 : wa.cell? ⟨cb, 0, none⟩ = some (.string S) := by rw [← hwa]; exact c0
    have c1 : wa.cell? ⟨cb, 1, none⟩ = some (.int .i64 p) := by rw [← hwa]; exact c1
    have cf : wa.frozen? ⟨cb, 1, none⟩ = false := by rw [← hwa]; exact cf
    have cl : cb < wa.heap.size := by rw [← hwa]; exact cl
    clear hwa
    go_quiet ((go_at_call 62; refine Calls.quiet_of_same ((HX1.out _).mono fun _ _ h => ⟨h.1, h.2.symm⟩)))
    go_wp2_with fail
    generalize hwb : wa.drewN nq = wb
    have HWb := Lib.hid hwb
    have c0 : wb.cell? ⟨cb, 0, none⟩ = some (.string S) := by rw [← hwb]; exact c0
    have c1 : wb.cell? ⟨cb, 1, none⟩ = some (.int .i64 p) := by rw [← hwb]; exact c1
    have cf : wb.frozen? ⟨cb, 1, none⟩ = false := by rw [← hwb]; exact cf
    have cl : cb < wb.heap.size := by rw [← hwb]; exact cl
    clear hwb
    go_quiet ((go_at_call 62; refine Calls.quiet_of_same ((HX2.out _).mono fun _ _ h => ⟨h.1, h.2.symm⟩)))
    go_wp2_with fail
    all_goals
      have HCb : Hid (Cu (wb.drewN nq) cb S p) := by rw [← HWb.out, ← HWa.out]; exact HC.out
      have HFb : Hid (FrS w.heap.size (fun k => k = cb) w (wb.drewN nq)) := by rw [← HWb.out, ← HWa.out]; exact (((FrS.refl _ _ w).drewN _).drewN _).drewN _
    · refine bodyPost_ret (v := .tuple #[.int .u8 (bits BinOp.or IntKind.u8 (n1 * 16) n2), .bool o2]) (by simp [results, Tryd.results59, go_sem]) rfl ?_
      refine ⟨_, o2, rfl, fun ho => ⟨v1 <<< 4 ||| v2, ?_, ?_, Cu.put HCb.out (p + 2)⟩, fun ho => ?_, HFb.out.put (.inr rfl) _⟩
      · rw [HDr1.out, HDr2.out]
        exact pair_some (HT.out.1 (by assumption)) (HT.out.2.2.1 ho)
      · rw [← HN1.out, ← HN2.out]; exact or_hex v1 v2 (by rw [HN1.out]; exact b1) (by rw [HN2.out]; exact b2)
      · rw [HDr1.out, HDr2.out]
        exact pair_none2 (HT.out.2.2.2 ho)
    · refine bodyPost_ret (v := .tuple #[.int .u8 (bits BinOp.or IntKind.u8 (n1 * 16) n2), .bool false]) (by simp [results, Tryd.results59, go_sem]) rfl ?_
      refine ⟨_, false, rfl, fun ho => (by cases ho), fun ho => ?_, HFb.out.put (.inr rfl) _⟩
      rw [HDr1.out, HDr2.out]
      exact pair_none1 (HT.out.2.1 (by simpa using (by assumption : ¬ o1 = true)))
  · have hgt : (S.size : Int) < (p : Int) + 2 := by omega
    have hnone : pairV ((bys S).drop p) = none := by
      have hl : ((bys S).drop p).length ≤ 1 := by rw [List.length_drop, bys_len]; omega
      match (bys S).drop p, hl with
      | [], _ => rfl
      | [a], _ => rfl
      | a :: b :: r, h => exact absurd h (by simp)
    have HNo := Lib.hid hnone
    clear hnone
    go_enter Tryd.func59, Tryd.ntmps59
    go_wp2_with fail
    go_quiet (fail)
    go_wp2_with fail
    refine bodyPost_ret (v := .tuple #[.int .u8 0, .bool false]) (by simp [results, Tryd.results59, go_sem]) rfl ?_
    exact ⟨0, false, rfl, fun ho => (by cases ho), fun _ => HNo.out, (FrS.refl _ _ w).drewN _⟩
end Go.Proofs.YtenhaohooknkfaaDoor
