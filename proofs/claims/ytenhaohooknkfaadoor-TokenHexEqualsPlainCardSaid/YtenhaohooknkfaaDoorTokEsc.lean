/- The walk of the cursor's escape (printed by gen_esc.py). -/
import Derived.Test.YtenhaohooknkfaaDoorTokPair
namespace Go.Proofs.YtenhaohooknkfaaDoor
open Go.RowKit Tk
def EscPost (S : ByteArray) (cb b R p : Nat) (acc : Src) (w : World) (e : Ending) (w' : World) : Prop :=
  FrS R (fun k => k = cb ∨ k = b) w w' ∧ match esc ((bys S).drop p) with
    | .error er => e = .returned (.int .i64 er)
    | .ok (bs, k) => e = .returned (.int .i64 0) ∧ Cu w' cb S (p + k) ∧ Pk R b (acc ++ bs) w'
theorem esc_post_ok {S : ByteArray} {cb b R p k : Nat} {acc bs : Src} {w w' : World} {e : Ending} (h : esc ((bys S).drop p) = .ok (bs, k)) (hf : FrS R (fun k => k = cb ∨ k = b) w w') (he : e = .returned (.int .i64 0)) (hc : Cu w' cb S (p + k)) (hp : Pk R b (acc ++ bs) w') : EscPost S cb b R p acc w e w' := by
  unfold EscPost; rw [h]; exact ⟨hf, he, hc, hp⟩
theorem esc_post_bad {S : ByteArray} {cb b R p : Nat} {acc : Src} {er : Int} {w w' : World} {e : Ending} (h : esc ((bys S).drop p) = .error er) (hf : FrS R (fun k => k = cb ∨ k = b) w w') (he : e = .returned (.int .i64 er)) : EscPost S cb b R p acc w e w' := by
  unfold EscPost; rw [h]; exact ⟨hf, he⟩
set_option maxHeartbeats 8000000 in
theorem escape_any (S : ByteArray) (cb b R p : Nat) (acc : Src) (w : World) (h : Cu w cb S p) (hp : p ≤ S.size) (hs : S.size ≤ 1000000) (hk : Pk R b acc w) (hl : acc.length ≤ 1000000) (hR : R ≤ w.heap.size) (hcb : cb ≠ b) (hcR : cb < R) :
    Calls Tryd.prog 61 #[.pointer (some ⟨cb, 0, none⟩), .pointer (some ⟨b, 0, none⟩)] w (EscPost S cb b R p acc w) := by
  have HC := Lib.hid h
  obtain ⟨c0, c1, cf, cl⟩ := h.cells
  have HWB : Hid (∀ W c, FrS w.heap.size (fun k => k = cb) w W → Calls Tryd.prog 25 #[.pointer (some ⟨b, 0, none⟩), .int .u8 (bt c)] W fun e w' => e = .returned .nilIface ∧ Pk R b (acc ++ [c]) w' ∧ FrX R b W w') := fun W c hf =>
    (pk_byte (hk.fr hf (Nat.le_refl _) fun k e => by omega) c (bt c) rfl (by omega) (Nat.le_trans hR hf.size)).mono fun _ _ h => ⟨h.1, h.2.1, h.2.2.1⟩
  have HPk := Lib.hid hk
  clear h hk
  by_cases hlt : p < S.size
  · have hi1 : (p : Int) < (S.size : Int) := by omega
    have hne : ((p : Int) == (S.size : Int)) = false := by rw [beq_eq_false_iff_ne]; omega
    have HDr := Lib.hid (drop_byte S p hlt)
    have HPut : Hid (∀ n, Cu ((w.drewN n).setCell ⟨cb, 1, none⟩ (.int .i64 ((p : Int) + 1))) cb S (p + 1) ∧ FrS w.heap.size (fun k => k = cb) w ((w.drewN n).setCell ⟨cb, 1, none⟩ (.int .i64 ((p : Int) + 1)))) := fun n =>
      ⟨Cu.put (w := w.drewN n) HC.out (p + 1), ((FrS.refl w.heap.size (fun k => k = cb) w).drewN n).put (p := ⟨cb, 1, none⟩) (.inr rfl) _⟩
    have HFin : Hid (∀ W w', FrS w.heap.size (fun k => k = cb) w W → Cu W cb S (p + 1) → FrX R b W w' → FrS R (fun k => k = cb ∨ k = b) w w' ∧ Cu w' cb S (p + 1)) := fun W w' h1 h2 h3 =>
      ⟨(h1.weak hR fun _ _ e => .inl e).trans (FrS.of_x h3 (.inr rfl)), Cu.fr h2 (FrS.of_x (S := fun k => k = b) h3 rfl) hcR hcb⟩
    have HPair := Lib.hid fun W (h : Cu W cb S (p + 1)) => pair_any S cb (p + 1) W h (by omega) hs
    have HKeep : Hid (∀ W, FrS w.heap.size (fun k => k = cb) w W → Pk R b acc W) := fun W hf => HPk.out.fr hf (Nat.le_refl _) fun k e => by omega
    unfold PairPost at HPair
    by_cases hx10 : S[p]'hlt = 10
    · have q10 : (((S[p]'hlt).toNat : Int) == 10) = true := by rw [hx10]; rfl
      have q110 : (((S[p]'hlt).toNat : Int) == 110) = false := by rw [hx10]; rfl
      have q116 : (((S[p]'hlt).toNat : Int) == 116) = false := by rw [hx10]; rfl
      have q92 : (((S[p]'hlt).toNat : Int) == 92) = false := by rw [hx10]; rfl
      have q40 : (((S[p]'hlt).toNat : Int) == 40) = false := by rw [hx10]; rfl
      have q41 : (((S[p]'hlt).toNat : Int) == 41) = false := by rw [hx10]; rfl
      have q120 : (((S[p]'hlt).toNat : Int) == 120) = false := by rw [hx10]; rfl
      have HX := Lib.hid hx10
      clear hx10
      go_enter Tryd.func61, Tryd.ntmps61
      go_wp2_with fail
      go_quiet (fail)
      go_wp2_with fail
      go_quiet (fail)
      go_wp2_with fail
      refine bodyPost_ret (v := .int .i64 0) (by simp [results, Tryd.results61, go_sem]) rfl ?_
      refine esc_post_ok (bs := []) (k := 1) (by rw [HDr.out, HX.out]; rfl) (((HPut.out _).2).weak hR fun _ _ e => .inl e) rfl (HPut.out _).1 (by rw [List.append_nil]; exact HKeep.out _ (HPut.out _).2)
    · by_cases hx110 : S[p]'hlt = 110
      · have q10 : (((S[p]'hlt).toNat : Int) == 10) = false := by rw [hx110]; rfl
        have q110 : (((S[p]'hlt).toNat : Int) == 110) = true := by rw [hx110]; rfl
        have q116 : (((S[p]'hlt).toNat : Int) == 116) = false := by rw [hx110]; rfl
        have q92 : (((S[p]'hlt).toNat : Int) == 92) = false := by rw [hx110]; rfl
        have q40 : (((S[p]'hlt).toNat : Int) == 40) = false := by rw [hx110]; rfl
        have q41 : (((S[p]'hlt).toNat : Int) == 41) = false := by rw [hx110]; rfl
        have q120 : (((S[p]'hlt).toNat : Int) == 120) = false := by rw [hx110]; rfl
        have HX := Lib.hid hx110
        clear hx110
        have hbt : ((S[p]'hlt).toNat : Int) = 110 := by rw [HX.out]; rfl
        go_enter Tryd.func61, Tryd.ntmps61
        go_wp2_with fail
        go_quiet (fail)
        go_wp2_with fail
        go_quiet (fail)
        go_wp2_with fail
        refine (HWB.out _ 10 (HPut.out _).2).mono ?_
        rintro e w2 ⟨rfl, hpk, hfx⟩
        obtain ⟨hf2, hc2⟩ := HFin.out _ _ (HPut.out _).2 (HPut.out _).1 hfx
        have HF2 := Lib.hid hf2
        have HC2 := Lib.hid hc2
        have HPk2 := Lib.hid hpk
        clear hf2 hc2 hpk hfx
        go_wp2_with fail
        refine bodyPost_ret (v := .int .i64 0) (by simp [results, Tryd.results61, go_sem]) rfl ?_
        exact esc_post_ok (bs := [10]) (k := 1) (by rw [HDr.out, HX.out]; rfl) HF2.out rfl HC2.out HPk2.out
      · by_cases hx116 : S[p]'hlt = 116
        · have q10 : (((S[p]'hlt).toNat : Int) == 10) = false := by rw [hx116]; rfl
          have q110 : (((S[p]'hlt).toNat : Int) == 110) = false := by rw [hx116]; rfl
          have q116 : (((S[p]'hlt).toNat : Int) == 116) = true := by rw [hx116]; rfl
          have q92 : (((S[p]'hlt).toNat : Int) == 92) = false := by rw [hx116]; rfl
          have q40 : (((S[p]'hlt).toNat : Int) == 40) = false := by rw [hx116]; rfl
          have q41 : (((S[p]'hlt).toNat : Int) == 41) = false := by rw [hx116]; rfl
          have q120 : (((S[p]'hlt).toNat : Int) == 120) = false := by rw [hx116]; rfl
          have HX := Lib.hid hx116
          clear hx116
          have hbt : ((S[p]'hlt).toNat : Int) = 116 := by rw [HX.out]; rfl
          go_enter Tryd.func61, Tryd.ntmps61
          go_wp2_with fail
          go_quiet (fail)
          go_wp2_with fail
          go_quiet (fail)
          go_wp2_with fail
          refine (HWB.out _ 9 (HPut.out _).2).mono ?_
          rintro e w2 ⟨rfl, hpk, hfx⟩
          obtain ⟨hf2, hc2⟩ := HFin.out _ _ (HPut.out _).2 (HPut.out _).1 hfx
          have HF2 := Lib.hid hf2
          have HC2 := Lib.hid hc2
          have HPk2 := Lib.hid hpk
          clear hf2 hc2 hpk hfx
          go_wp2_with fail
          refine bodyPost_ret (v := .int .i64 0) (by simp [results, Tryd.results61, go_sem]) rfl ?_
          exact esc_post_ok (bs := [9]) (k := 1) (by rw [HDr.out, HX.out]; rfl) HF2.out rfl HC2.out HPk2.out
        · by_cases hx92 : S[p]'hlt = 92
          · have q10 : (((S[p]'hlt).toNat : Int) == 10) = false := by rw [hx92]; rfl
            have q110 : (((S[p]'hlt).toNat : Int) == 110) = false := by rw [hx92]; rfl
            have q116 : (((S[p]'hlt).toNat : Int) == 116) = false := by rw [hx92]; rfl
            have q92 : (((S[p]'hlt).toNat : Int) == 92) = true := by rw [hx92]; rfl
            have q40 : (((S[p]'hlt).toNat : Int) == 40) = false := by rw [hx92]; rfl
            have q41 : (((S[p]'hlt).toNat : Int) == 41) = false := by rw [hx92]; rfl
            have q120 : (((S[p]'hlt).toNat : Int) == 120) = false := by rw [hx92]; rfl
            have HX := Lib.hid hx92
            clear hx92
            have hbt : ((S[p]'hlt).toNat : Int) = 92 := by rw [HX.out]; rfl
            go_enter Tryd.func61, Tryd.ntmps61
            go_wp2_with fail
            go_quiet (fail)
            go_wp2_with fail
            go_quiet (fail)
            go_wp2_with fail
            refine (HWB.out _ 92 (HPut.out _).2).mono ?_
            rintro e w2 ⟨rfl, hpk, hfx⟩
            obtain ⟨hf2, hc2⟩ := HFin.out _ _ (HPut.out _).2 (HPut.out _).1 hfx
            have HF2 := Lib.hid hf2
            have HC2 := Lib.hid hc2
            have HPk2 := Lib.hid hpk
            clear hf2 hc2 hpk hfx
            go_wp2_with fail
            refine bodyPost_ret (v := .int .i64 0) (by simp [results, Tryd.results61, go_sem]) rfl ?_
            exact esc_post_ok (bs := [92]) (k := 1) (by rw [HDr.out, HX.out]; rfl) HF2.out rfl HC2.out HPk2.out
          · by_cases hx40 : S[p]'hlt = 40
            · have q10 : (((S[p]'hlt).toNat : Int) == 10) = false := by rw [hx40]; rfl
              have q110 : (((S[p]'hlt).toNat : Int) == 110) = false := by rw [hx40]; rfl
              have q116 : (((S[p]'hlt).toNat : Int) == 116) = false := by rw [hx40]; rfl
              have q92 : (((S[p]'hlt).toNat : Int) == 92) = false := by rw [hx40]; rfl
              have q40 : (((S[p]'hlt).toNat : Int) == 40) = true := by rw [hx40]; rfl
              have q41 : (((S[p]'hlt).toNat : Int) == 41) = false := by rw [hx40]; rfl
              have q120 : (((S[p]'hlt).toNat : Int) == 120) = false := by rw [hx40]; rfl
              have HX := Lib.hid hx40
              clear hx40
              have hbt : ((S[p]'hlt).toNat : Int) = 40 := by rw [HX.out]; rfl
              go_enter Tryd.func61, Tryd.ntmps61
              go_wp2_with fail
              go_quiet (fail)
              go_wp2_with fail
              go_quiet (fail)
              go_wp2_with fail
              refine (HWB.out _ 40 (HPut.out _).2).mono ?_
              rintro e w2 ⟨rfl, hpk, hfx⟩
              obtain ⟨hf2, hc2⟩ := HFin.out _ _ (HPut.out _).2 (HPut.out _).1 hfx
              have HF2 := Lib.hid hf2
              have HC2 := Lib.hid hc2
              have HPk2 := Lib.hid hpk
              clear hf2 hc2 hpk hfx
              go_wp2_with fail
              refine bodyPost_ret (v := .int .i64 0) (by simp [results, Tryd.results61, go_sem]) rfl ?_
              exact esc_post_ok (bs := [40]) (k := 1) (by rw [HDr.out, HX.out]; rfl) HF2.out rfl HC2.out HPk2.out
            · by_cases hx41 : S[p]'hlt = 41
              · have q10 : (((S[p]'hlt).toNat : Int) == 10) = false := by rw [hx41]; rfl
                have q110 : (((S[p]'hlt).toNat : Int) == 110) = false := by rw [hx41]; rfl
                have q116 : (((S[p]'hlt).toNat : Int) == 116) = false := by rw [hx41]; rfl
                have q92 : (((S[p]'hlt).toNat : Int) == 92) = false := by rw [hx41]; rfl
                have q40 : (((S[p]'hlt).toNat : Int) == 40) = false := by rw [hx41]; rfl
                have q41 : (((S[p]'hlt).toNat : Int) == 41) = true := by rw [hx41]; rfl
                have q120 : (((S[p]'hlt).toNat : Int) == 120) = false := by rw [hx41]; rfl
                have HX := Lib.hid hx41
                clear hx41
                have hbt : ((S[p]'hlt).toNat : Int) = 41 := by rw [HX.out]; rfl
                go_enter Tryd.func61, Tryd.ntmps61
                go_wp2_with fail
                go_quiet (fail)
                go_wp2_with fail
                go_quiet (fail)
                go_wp2_with fail
                refine (HWB.out _ 41 (HPut.out _).2).mono ?_
                rintro e w2 ⟨rfl, hpk, hfx⟩
                obtain ⟨hf2, hc2⟩ := HFin.out _ _ (HPut.out _).2 (HPut.out _).1 hfx
                have HF2 := Lib.hid hf2
                have HC2 := Lib.hid hc2
                have HPk2 := Lib.hid hpk
                clear hf2 hc2 hpk hfx
                go_wp2_with fail
                refine bodyPost_ret (v := .int .i64 0) (by simp [results, Tryd.results61, go_sem]) rfl ?_
                exact esc_post_ok (bs := [41]) (k := 1) (by rw [HDr.out, HX.out]; rfl) HF2.out rfl HC2.out HPk2.out
              · by_cases hx120 : S[p]'hlt = 120
                · have q10 : (((S[p]'hlt).toNat : Int) == 10) = false := by rw [hx120]; rfl
                  have q110 : (((S[p]'hlt).toNat : Int) == 110) = false := by rw [hx120]; rfl
                  have q116 : (((S[p]'hlt).toNat : Int) == 116) = false := by rw [hx120]; rfl
                  have q92 : (((S[p]'hlt).toNat : Int) == 92) = false := by rw [hx120]; rfl
                  have q40 : (((S[p]'hlt).toNat : Int) == 40) = false := by rw [hx120]; rfl
                  have q41 : (((S[p]'hlt).toNat : Int) == 41) = false := by rw [hx120]; rfl
                  have q120 : (((S[p]'hlt).toNat : Int) == 120) = true := by rw [hx120]; rfl
                  have HX := Lib.hid hx120
                  clear hx120
                  have hex : esc ((bys S).drop p) = match pairV ((bys S).drop (p + 1)) with | some v => .ok ([v], 3) | none => .error 5 := by rw [HDr.out, HX.out]; rfl
                  have HEx := Lib.hid hex
                  clear hex
                  go_enter Tryd.func61, Tryd.ntmps61
                  go_wp2_with fail
                  go_quiet (fail)
                  go_wp2_with fail
                  go_quiet (fail)
                  go_wp2_with fail
                  refine (HPair.out _ (HPut.out _).1).mono ?_
                  rintro e w2 ⟨r, ok, rfl, hok, hbad, hf⟩
                  have hf2 : FrS w.heap.size (fun k => k = cb) w w2 := (HPut.out _).2.trans (hf.weak (HPut.out _).2.size fun _ _ h => h)
                  have HF2 := Lib.hid hf2
                  clear hf hf2
                  cases ok with
                  | true =>
                    obtain ⟨v, hv, rfl, hcu⟩ := hok rfl
                    have HV : Hid (esc ((bys S).drop p) = .ok ([v], 3)) := by unfold Hid; rw [HEx.out, hv]
                    have HCu := Lib.hid hcu
                    have HWb := Lib.hid (HWB.out w2 v HF2.out)
                    clear hok hbad hv hcu
                    generalize hbv : bt v = n at *
                    clear hbv
                    go_wp2_with fail
                    refine HWb.out.mono ?_
                    rintro e w3 ⟨rfl, hpk, hfx⟩
                    have HF3 := Lib.hid ((HF2.out.weak hR fun _ _ e => .inl e).trans (FrS.of_x (S := fun k => k = cb ∨ k = b) hfx (.inr rfl)))
                    have HC3 := Lib.hid (Cu.fr HCu.out (FrS.of_x (S := fun k => k = b) hfx rfl) hcR hcb)
                    have HPk3 := Lib.hid hpk
                    clear hpk hfx
                    go_wp2_with fail
                    refine bodyPost_ret (v := .int .i64 0) (by simp [results, Tryd.results61, go_sem]) rfl ?_
                    exact esc_post_ok HV.out HF3.out rfl HC3.out HPk3.out
                  | false =>
                    have HV : Hid (esc ((bys S).drop p) = .error 5) := by unfold Hid; rw [HEx.out, hbad rfl]
                    clear hok hbad
                    go_wp2_with fail
                    refine bodyPost_ret (v := .int .i64 5) (by simp [results, Tryd.results61, go_sem]) rfl ?_
                    exact esc_post_bad HV.out (HF2.out.weak hR fun _ _ e => .inl e) rfl
                · have q10 : (((S[p]'hlt).toNat : Int) == 10) = false := bt_ne (S[p]'hlt) 10 hx10
                  have q110 : (((S[p]'hlt).toNat : Int) == 110) = false := bt_ne (S[p]'hlt) 110 hx110
                  have q116 : (((S[p]'hlt).toNat : Int) == 116) = false := bt_ne (S[p]'hlt) 116 hx116
                  have q92 : (((S[p]'hlt).toNat : Int) == 92) = false := bt_ne (S[p]'hlt) 92 hx92
                  have q40 : (((S[p]'hlt).toNat : Int) == 40) = false := bt_ne (S[p]'hlt) 40 hx40
                  have q41 : (((S[p]'hlt).toNat : Int) == 41) = false := bt_ne (S[p]'hlt) 41 hx41
                  have q120 : (((S[p]'hlt).toNat : Int) == 120) = false := bt_ne (S[p]'hlt) 120 hx120
                  have HNs := Lib.hid (And.intro hx10 (And.intro hx110 (And.intro hx116 (And.intro hx92 (And.intro hx40 (And.intro hx41 hx120))))))
                  clear hx10 hx110 hx116 hx92 hx40 hx41 hx120
                  go_enter Tryd.func61, Tryd.ntmps61
                  go_wp2_with fail
                  go_quiet (fail)
                  go_wp2_with fail
                  go_quiet (fail)
                  go_wp2_with fail
                  refine bodyPost_ret (v := .int .i64 5) (by simp [results, Tryd.results61, go_sem]) rfl ?_
                  refine esc_post_bad (er := 5) ?_ (((HPut.out _).2).weak hR fun _ _ e => .inl e) rfl
                  rw [HDr.out]
                  obtain ⟨h1, h2, h3, h4, h5, h6, h7⟩ := HNs.out
                  simp only [esc]
                  rw [if_neg (by simpa using h1), if_neg (by simpa using h2), if_neg (by simpa using h3), if_neg (by simp [h4, h5, h6]), if_neg (by simpa using h7)]
  · have hqe : p = S.size := by omega
    subst hqe
    have hnone : esc ((bys S).drop S.size) = .error 12 := by rw [List.drop_eq_nil_of_le (by rw [bys_len]; omega)]; rfl
    have HNo := Lib.hid hnone
    clear hnone hlt
    go_enter Tryd.func61, Tryd.ntmps61
    go_wp2_with fail
    go_quiet (fail)
    go_wp2_with fail
    refine bodyPost_ret (v := .int .i64 12) (by simp [results, Tryd.results61, go_sem]) rfl ?_
    exact esc_post_bad HNo.out ((FrS.refl R (fun k => k = cb ∨ k = b) w).drewN _) rfl
end Go.Proofs.YtenhaohooknkfaaDoor
