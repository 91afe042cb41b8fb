/- The walks of the cursor's run and pair. -/
import Derived.Test.YtenhaohooknkfaaDoorTokCur
namespace Go.Proofs.YtenhaohooknkfaaDoor
open Go.RowKit Tk
/-! The run of regular bytes. -/
theorem run_nil : run [] = [] := rfl
theorem run_step (x : UInt8) (r : Src) : run (x :: r) = if regular x then x :: run r else [] := by
  unfold run; rw [List.takeWhile_cons]
theorem ext_run (S : ByteArray) (p q : Nat) : S.extract p q = ⟨(((bys S).drop p).take (q - p)).toArray⟩ := by
  apply ByteArray.ext
  rw [ByteArray.data_extract]
  apply Array.ext'
  simp only [Array.toList_extract, List.extract_eq_take_drop]
  rfl
theorem run_len (l : Src) : (run l).length ≤ l.length := by
  obtain ⟨b, h, _⟩ := run_split l
  have := congrArg List.length h
  rw [List.length_append] at this; omega
theorem run_take (l : Src) : l.take (run l).length = run l := by
  obtain ⟨b, h, _⟩ := run_split l
  have h2 := congrArg (List.take (run l).length) h
  rw [List.take_left] at h2
  exact h2
set_option maxHeartbeats 4000000 in
theorem run_any (S : ByteArray) (cb p : Nat) (w : World) (h : Cu w cb S p) (hp : p ≤ S.size) (hs : S.size ≤ 1000000) :
    Calls Tryd.prog 46 #[.pointer (some ⟨cb, 0, none⟩)] w fun e w' => e = .returned (.string ⟨(run ((bys S).drop p)).toArray⟩) ∧ Cu w' cb S (p + (run ((bys S).drop p)).length) ∧ FrS w.heap.size (fun k => k = cb) w w' := by
  have HC := Lib.hid h
  obtain ⟨c0, c1, cf, cl⟩ := h.cells
  clear h
  go_enter Tryd.func46, Tryd.ntmps46
  go_wp2_with fail
  go_loopw [] (fun wq => True ∧ ∃ (q : Nat), p ≤ q ∧ q ≤ S.size ∧ Cu wq cb S q ∧ q + (run ((bys S).drop q)).length = p + (run ((bys S).drop p)).length ∧ FrS w.heap.size (fun k => k = cb) w wq) (fun wq => S.size - (intOf ((wq.cell? ⟨cb, 1, none⟩).getD .nilIface)).toNat)
  case atStart => exact ⟨trivial, p, Nat.le_refl _, hp, HC.out, rfl, FrS.refl _ _ _⟩
  case round =>
    obtain ⟨-, q, hpq, hq, hcu, hsk, hfr⟩ := hrel
    have HCu := Lib.hid hcu
    have HFr := Lib.hid hfr
    have HSk := Lib.hid hsk
    obtain ⟨c0, c1, cf, cl⟩ := hcu.cells
    have HEnd : Hid ((run ((bys S).drop q)).length = 0 → (⟨(run ((bys S).drop p)).toArray⟩ : ByteArray) = S.extract p q ∧ Cu wr cb S (p + (run ((bys S).drop p)).length) ∧ FrS w.heap.size (fun k => k = cb) w wr) := fun h0 => by
      have h1 : q = p + (run ((bys S).drop p)).length := by omega
      refine ⟨?_, by rw [← h1]; exact HCu.out, HFr.out⟩
      rw [ext_run, show q - p = (run ((bys S).drop p)).length by omega, run_take]
    have hqi : (p : Int) ≤ (q : Int) := by omega
    have hqs : (q : Int) ≤ (S.size : Int) := by omega
    have hp0 : (0 : Int) ≤ (p : Int) := by omega
    clear hcu hfr hsk
    by_cases hlt : q < S.size
    · have hlt' : (q : Int) < (S.size : Int) := by omega
      have hd : decide ((q : Int) < (S.size : Int)) = true := decide_eq_true hlt'
      have HDr := Lib.hid (drop_byte S q hlt)
      have HR := Lib.hid fun W => regular_any (S[q]'hlt) W
      have HPut : Hid (∀ k, Cu ((wr.drewN k).setCell ⟨cb, 1, none⟩ (.int .i64 ((q : Int) + 1))) cb S (q + 1) ∧ FrS w.heap.size (fun k => k = cb) w ((wr.drewN k).setCell ⟨cb, 1, none⟩ (.int .i64 ((q : Int) + 1)))) := fun k =>
        ⟨Cu.put (w := wr.drewN k) HCu.out (q + 1), (HFr.out.drewN k).put (.inr rfl) _⟩
      have HMe : Hid (∀ k, S.size - (intOf ((((wr.drewN k).setCell ⟨cb, 1, none⟩ (.int .i64 ((q : Int) + 1))).cell? ⟨cb, 1, none⟩).getD .nilIface)).toNat < S.size - (intOf ((wr.cell? ⟨cb, 1, none⟩).getD .nilIface)).toNat) := fun k => by
        have h1 := (HPut.out k).1.cells.2.1
        rw [h1, c1]
        simp [intOf]; omega
      cases hr : regular (S[q]'hlt)
      · rw [hr] at HR
        have hE := HEnd.out (by rw [HDr.out, run_step, hr]; rfl)
        have HE := Lib.hid hE
        clear hE
        go_wp2_with fail
        go_quiet ((go_at_call 24; refine Calls.quiet_of_same ((HR.out _).mono fun _ _ h => ⟨h.1, h.2.symm⟩)))
        go_wp2_with fail
        go_region
        go_wp2_with fail
        refine bodyPost_ret (v := .string (S.extract p q)) (by simp [results, Tryd.results46, go_sem]) rfl ?_
        exact ⟨by rw [HE.out.1], Blk.drewN HE.out.2.1 _, HE.out.2.2.drewN _⟩
      · rw [hr] at HR
        go_wp2_with fail
        go_quiet ((go_at_call 24; refine Calls.quiet_of_same ((HR.out _).mono fun _ _ h => ⟨h.1, h.2.symm⟩)))
        go_wp2_with fail
        refine ⟨⟨trivial, q + 1, by omega, by omega, (HPut.out _).1, ?_, (HPut.out _).2⟩, HMe.out _⟩
        rw [← HSk.out, HDr.out, run_step, hr, if_pos rfl, List.length_cons]; omega
    · have hqe : q = S.size := by omega
      subst hqe
      have hE := HEnd.out (by rw [List.drop_eq_nil_of_le (by rw [bys_len]; omega)]; rfl)
      have HE := Lib.hid hE
      clear hE hlt hqs hq
      go_wp2_with fail
      go_region
      go_wp2_with fail
      go_region
      go_wp2_with fail
      refine bodyPost_ret (v := .string (S.extract p S.size)) (by simp [results, Tryd.results46, go_sem]) rfl ?_
      exact ⟨by rw [HE.out.1], Blk.drew (Blk.drew HE.out.2.1), HE.out.2.2.drew.drew⟩
end Go.Proofs.YtenhaohooknkfaaDoor
