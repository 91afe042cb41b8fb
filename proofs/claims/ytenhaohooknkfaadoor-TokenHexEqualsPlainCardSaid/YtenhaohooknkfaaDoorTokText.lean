/- The walks of limited and of the cursor's text. -/
import Derived.Test.YtenhaohooknkfaaDoorTokEsc
namespace Go.Proofs.YtenhaohooknkfaaDoor
open Go.RowKit Tk
theorem esc_err {l : Src} {er : Int} (h : esc l = .error er) : er ≠ 0 := by
  cases l with
  | nil => cases h; decide
  | cons x r =>
    simp only [esc] at h
    repeat' split at h
    all_goals first | (cases h; done) | (cases h; decide)
theorem limited_any (l : Src) (most : Nat) (w : World) : Calls Tryd.prog 42 #[.string ⟨l.toArray⟩, .int .i64 most] w fun e w' => e = .returned (.tuple #[.string ⟨(if most < l.length then [] else l).toArray⟩, .int .i64 (if most < l.length then 2 else 0)]) ∧ w = w' := by
  have hz : (⟨l.toArray⟩ : ByteArray).size = l.length := by simp [ByteArray.size]
  by_cases h : most < l.length
  · rw [if_pos h, if_pos h]
    generalize (⟨l.toArray⟩ : ByteArray) = s at *
    have h2 : (most : Int) < (s.size : Int) := by omega
    clear hz h
    go_enter Tryd.func42, Tryd.ntmps42
    go_wp2
    go_ret2
    exact ⟨rfl, rfl⟩
  · rw [if_neg h, if_neg h]
    generalize (⟨l.toArray⟩ : ByteArray) = s at *
    have h2 : ¬ (most : Int) < (s.size : Int) := by omega
    clear hz h
    go_enter Tryd.func42, Tryd.ntmps42
    go_wp2
    go_ret2
    exact ⟨rfl, rfl⟩
/-- What a reading answers: a string, or an error. -/
def TxtPost (S : ByteArray) (cb p : Nat) (r : Res Src) (w : World) (e : Ending) (w' : World) : Prop :=
  FrS w.heap.size (fun k => k = cb) w w' ∧ match r with
    | .error er => e = .returned (.tuple #[.string ⟨#[]⟩, .int .i64 er])
    | .ok (t, n) => e = .returned (.tuple #[.string ⟨t.toArray⟩, .int .i64 0]) ∧ Cu w' cb S (p + n)
theorem txt_ok {S : ByteArray} {cb p n : Nat} {t : Src} {r : Res Src} {w w' : World} {e : Ending} (h : r = .ok (t, n)) (hf : FrS w.heap.size (fun k => k = cb) w w') (he : e = .returned (.tuple #[.string ⟨t.toArray⟩, .int .i64 0])) (hc : Cu w' cb S (p + n)) : TxtPost S cb p r w e w' := by
  unfold TxtPost; rw [h]; exact ⟨hf, he, hc⟩
theorem txt_bad {S : ByteArray} {cb p : Nat} {er : Int} {r : Res Src} {w w' : World} {e : Ending} (h : r = .error er) (hf : FrS w.heap.size (fun k => k = cb) w w') (he : e = .returned (.tuple #[.string ⟨#[]⟩, .int .i64 er])) : TxtPost S cb p r w e w' := by
  unfold TxtPost; rw [h]; exact ⟨hf, he⟩
set_option maxHeartbeats 8000000 in
theorem text_any (S : ByteArray) (cb p : Nat) (w : World) (h : Cu w cb S p) (hp : p ≤ S.size) (hs : S.size ≤ 100000) :
    Calls Tryd.prog 49 #[.pointer (some ⟨cb, 0, none⟩)] w (TxtPost S cb p (text ((bys S).drop p)) w) := by
  have hcl := h.cells.2.2.2
  have hb1 := (FrS.refl w.heap.size (fun k => k = cb) w).alloc (Nat.le_refl _) (.cells #[.pointer none, .slice none 0 0] 52)
  have hc1 := Blk.alloc h (.cells #[.pointer none, .slice none 0 0] 52)
  have hk1 : Pk (w.heap.size + 1) w.heap.size [] (w.alloc (.cells #[.pointer none, .slice none 0 0] 52)) := pk_fresh (Blk.new w _ _)
  have hs1 : Hid ((w.alloc (.cells #[.pointer none, .slice none 0 0] 52)).heap.size = w.heap.size + 1) := by unfold Hid; simp
  have HB1 := Lib.hid hb1
  have HC1 : Hid (Cu (w.alloc (.cells #[.pointer none, .slice none 0 0] 52)) cb S p) := hc1
  have HK1 := Lib.hid hk1
  have HPost : Hid (∀ e w', TxtPost S cb p (text ((bys S).drop p)) w e w' → TxtPost S cb p (text ((bys S).drop p)) w e w') := fun _ _ h => h
  have HTx : Hid (text ((bys S).drop p) = textF (((bys S).drop p).length + 1) 1 ((bys S).drop p) [] 0) := rfl
  generalize text ((bys S).drop p) = T at *
  clear h hb1 hc1 hk1
  go_enter Tryd.func49, Tryd.ntmps49
  go_wp2_with fail
  generalize w.alloc (.cells #[.pointer none, .slice none 0 0] 52) = w1 at *
  go_loopw [5, 6, 7, 35, 42, 48] (fun v5 _ _ _ _ _ wq => True ∧ ∃ (q d f n0 : Nat) (acc : Src), v5 = .int .i64 d ∧ 1 ≤ d ∧ d ≤ 16 ∧ q ≤ S.size ∧ q = p + n0 ∧ acc.length ≤ n0 ∧ Cu wq cb S q ∧ Pk (w.heap.size + 1) w.heap.size acc wq ∧ ((bys S).drop q).length < f ∧ textF f d ((bys S).drop q) acc n0 = T ∧ FrS w.heap.size (fun k => k = cb) w wq ∧ w.heap.size + 1 ≤ wq.heap.size) (fun _ _ _ _ _ _ wq => S.size - (intOf ((wq.cell? ⟨cb, 1, none⟩).getD .nilIface)).toNat)
  case atStart => exact ⟨trivial, p, 1, ((bys S).drop p).length + 1, 0, [], rfl, Nat.le_refl _, by omega, hp, rfl, Nat.le_refl _, HC1.out, HK1.out, by omega, HTx.out.symm, HB1.out, by rw [hs1.out]; exact Nat.le_refl _⟩
  case round =>
    obtain ⟨-, q, d, f, n0, acc, rfl, hd1, hd2, hq, hqn, hal, hcu, hpk, hfu, htx, hfr, hsz⟩ := hrel
    have HQn := Lib.hid hqn
    have hn0 : n0 ≤ q := by omega
    clear hqn
    obtain ⟨c0, c1, cf, cl⟩ := hcu.cells
    obtain ⟨g, rfl⟩ : ∃ g, f = g + 1 := ⟨f - 1, by omega⟩
    have HCu := Lib.hid hcu
    have HFr := Lib.hid hfr
    have HTe := Lib.hid htx
    have HWB : Hid (∀ W c, FrS wr.heap.size (fun k => k = cb) wr W → Calls Tryd.prog 25 #[.pointer (some ⟨w.heap.size, 0, none⟩), .int .u8 (bt c)] W fun e w' => e = .returned .nilIface ∧ Pk (w.heap.size + 1) w.heap.size (acc ++ [c]) w' ∧ FrX (w.heap.size + 1) w.heap.size W w') := fun W c hf =>
      (pk_byte (hpk.fr hf (Nat.le_refl _) fun k e => by omega) c (bt c) rfl (by omega) (Nat.le_trans hsz hf.size)).mono fun _ _ h => ⟨h.1, h.2.1, h.2.2.1⟩
    have HKeep : Hid (∀ W, FrS wr.heap.size (fun k => k = cb) wr W → Pk (w.heap.size + 1) w.heap.size acc W) := fun W hf => hpk.fr hf (Nat.le_refl _) fun k e => by omega
    have HPk := Lib.hid hpk
    have HMea : Hid (∀ W : World, Cu W cb S (q + 1) → q < S.size → S.size - (intOf ((W.cell? ⟨cb, 1, none⟩).getD .nilIface)).toNat < S.size - (intOf ((wr.cell? ⟨cb, 1, none⟩).getD .nilIface)).toNat) := fun W h hq => by
      rw [h.cells.2.1, c1]
      simp [intOf]; omega
    clear hcu hfr htx hpk
    by_cases hlt : q < S.size
    · have hi1 : (q : Int) < (S.size : Int) := by omega
      have hdt : decide ((q : Int) < (S.size : Int)) = true := decide_eq_true hi1
      have HDr := Lib.hid (drop_byte S q hlt)
      have hfu2 : ((bys S).drop (q + 1)).length < g := by have := congrArg List.length (drop_byte S q hlt); rw [List.length_cons] at this; omega
      rw [HDr.out] at HTe
      have HMea := Lib.hid fun W h => HMea.out W h hlt
      have HPut : Hid (∀ n, Cu ((wr.drewN n).setCell ⟨cb, 1, none⟩ (.int .i64 ((q : Int) + 1))) cb S (q + 1) ∧ FrS wr.heap.size (fun k => k = cb) wr ((wr.drewN n).setCell ⟨cb, 1, none⟩ (.int .i64 ((q : Int) + 1)))) := fun n =>
        ⟨Cu.put (w := wr.drewN n) HCu.out (q + 1), ((FrS.refl wr.heap.size (fun k => k = cb) wr).drewN n).put (p := ⟨cb, 1, none⟩) (.inr rfl) _⟩
      have HFin : Hid (∀ W w', FrS wr.heap.size (fun k => k = cb) wr W → Cu W cb S (q + 1) → FrX (w.heap.size + 1) w.heap.size W w' → FrS w.heap.size (fun k => k = cb) w w' ∧ Cu w' cb S (q + 1) ∧ w.heap.size + 1 ≤ w'.heap.size) := fun W w' h1 h2 h3 =>
        ⟨(HFr.out.trans (h1.weak (by omega) fun _ _ e => e)).trans (FrS.weak (FrS.of_x (S := fun k => k = w.heap.size) h3 rfl) (Nat.le_succ _) fun k hk e => by omega), Cu.fr h2 (FrS.of_x (S := fun k => k = w.heap.size) h3 rfl) (by omega) (by omega), by have := h1.size; have := h3.size; omega⟩
      by_cases hx92 : S[q]'hlt = 92
      · have q92 : (((S[q]'hlt).toNat : Int) == 92) = true := by rw [hx92]; rfl
        have q40 : (((S[q]'hlt).toNat : Int) == 40) = false := by rw [hx92]; rfl
        have q41 : (((S[q]'hlt).toNat : Int) == 41) = false := by rw [hx92]; rfl
        have HEsc : Hid (∀ n, Calls Tryd.prog 61 #[.pointer (some ⟨cb, 0, none⟩), .pointer (some ⟨w.heap.size, 0, none⟩)] ((wr.drewN n).setCell ⟨cb, 1, none⟩ (.int .i64 ((q : Int) + 1))) (EscPost S cb w.heap.size (w.heap.size + 1) (q + 1) acc ((wr.drewN n).setCell ⟨cb, 1, none⟩ (.int .i64 ((q : Int) + 1))))) := fun n => escape_any S cb w.heap.size (w.heap.size + 1) (q + 1) acc _ (HPut.out n).1 (by omega) (by omega) (HKeep.out _ (HPut.out n).2) (by omega) (by have := (HPut.out n).2.size; omega) (by omega) (by omega)
        unfold EscPost at HEsc
        have HTx2 : Hid (T = match esc ((bys S).drop (q + 1)) with | .error e => .error e | .ok (b, k) => textF g d (((bys S).drop (q + 1)).drop k) (acc ++ b) (n0 + 1 + k)) := by
          unfold Hid
          rw [← HTe.out, textF, if_pos (by simpa using hx92)]
          cases esc ((bys S).drop (q + 1)) <;> rfl
        clear hx92
        cases hes : esc ((bys S).drop (q + 1)) with
        | error er =>
          rw [hes] at HEsc HTx2
          dsimp only at HEsc HTx2
          have her := esc_err hes
          clear hes
          go_wp2_with fail
          go_quiet (fail)
          go_wp2_with fail
          go_quiet (fail)
          go_wp2_with fail
          refine (HEsc.out _).mono ?_
          rintro e w2 ⟨hf2, rfl⟩
          have HF2 := Lib.hid ((HFr.out.trans ((HPut.out _).2.weak (by omega) fun _ _ e => e)).trans (hf2.weak (R' := w.heap.size) (S' := fun k => k = cb) (Nat.le_succ _) fun k hk e => by rcases e with e | e; exact e; omega))
          clear hf2
          go_wp2_with fail
          refine bodyPost_ret (v := .tuple #[.string ⟨#[]⟩, .int .i64 er]) (by simp [results, Tryd.results49, go_sem]) rfl ?_
          exact txt_bad HTx2.out HF2.out rfl
        | ok bk =>
          obtain ⟨bs, k⟩ := bk
          rw [hes] at HEsc HTx2
          dsimp only at HEsc HTx2
          obtain ⟨a, r', h1, h2, h3, h4, _⟩ := esc_split hes
          have hlen := congrArg List.length h1
          rw [List.length_drop, List.length_append, bys_len] at hlen
          rw [List.drop_drop] at HTx2
          have hk1 : q + 1 + k ≤ S.size := by omega
          have hlt3 : ((bys S).drop (q + 1 + k)).length < g := by rw [List.length_drop, bys_len] at hfu2 ⊢; omega
          have hbs : (acc ++ bs).length ≤ n0 + 1 + k := by rw [List.length_append]; omega
          clear hes h1 h2 hlen h4
          go_wp2_with fail
          go_quiet (fail)
          go_wp2_with fail
          go_quiet (fail)
          go_wp2_with fail
          refine (HEsc.out _).mono ?_
          rintro e w2 ⟨hf2, rfl, hc2, hp2⟩
          have HF2 := Lib.hid ((HFr.out.trans ((HPut.out _).2.weak (by omega) fun _ _ e => e)).trans (hf2.weak (R' := w.heap.size) (S' := fun k => k = cb) (Nat.le_succ _) fun k hk e => by rcases e with e | e; exact e; omega))
          have hs2 : w.heap.size + 1 ≤ w2.heap.size := by have := hf2.size; have := (HPut.out 0).2.size; simp only [World.setCell] at *; simp at *; omega
          have HC2 := Lib.hid hc2
          have HPk2 := Lib.hid hp2
          have HMe : Hid (S.size - (intOf ((w2.cell? ⟨cb, 1, none⟩).getD .nilIface)).toNat < S.size - (intOf ((wr.cell? ⟨cb, 1, none⟩).getD .nilIface)).toNat) := by
            unfold Hid
            rw [hc2.cells.2.1, c1]
            simp [intOf]; omega
          clear hf2 hc2 hp2
          go_wp2_with fail
          exact ⟨⟨trivial, q + 1 + k, d, g, n0 + 1 + k, acc ++ bs, rfl, hd1, hd2, hk1, by have := HQn.out; omega, hbs, HC2.out, HPk2.out, hlt3, HTx2.out.symm, HF2.out, hs2⟩, HMe.out⟩
      · by_cases hx40 : S[q]'hlt = 40
        · have q92 : (((S[q]'hlt).toNat : Int) == 92) = false := by rw [hx40]; rfl
          have q40 : (((S[q]'hlt).toNat : Int) == 40) = true := by rw [hx40]; rfl
          have q41 : (((S[q]'hlt).toNat : Int) == 41) = false := by rw [hx40]; rfl
          by_cases hdd : 16 < d + 1
          · have HSt : Hid (T = .error 15) := by
              unfold Hid
              rw [← HTe.out, textF, if_neg (by simpa using hx92), if_pos (by simpa using hx40), if_pos hdd]
            obtain rfl : d = 16 := by omega
            clear hx92 hx40 hdd
            go_wp2_with fail
            go_quiet (fail)
            go_wp2_with fail
            go_quiet (fail)
            go_wp2_with fail
            refine bodyPost_ret (v := .tuple #[.string ⟨#[]⟩, .int .i64 15]) (by simp [results, Tryd.results49, go_sem]) rfl ?_
            exact txt_bad HSt.out (HFr.out.trans ((HPut.out _).2.weak (by omega) fun _ _ e => e)) rfl
          · have HSt : Hid (textF g (d + 1) ((bys S).drop (q + 1)) (acc ++ [S[q]'hlt]) (n0 + 1) = T) := by
              unfold Hid
              rw [← HTe.out, textF, if_neg (by simpa using hx92), if_pos (by simpa using hx40), if_neg hdd]
            have hde : (((d : Int) + 1) == 0) = false := by rw [beq_eq_false_iff_ne]; omega
            have hdg : decide ((16 : Int) < (d : Int) + 1) = false := decide_eq_false (by omega)
            clear hx92 hx40
            go_wp2_with fail
            go_quiet (fail)
            go_wp2_with fail
            go_quiet (fail)
            go_wp2_with fail
            refine (HWB.out _ (S[q]'hlt) (HPut.out _).2).mono ?_
            rintro e w2 ⟨rfl, hpk2, hfx⟩
            obtain ⟨hf2, hc2, hs2⟩ := HFin.out _ _ (HPut.out _).2 (HPut.out _).1 hfx
            have HF2 := Lib.hid hf2
            have HC2 := Lib.hid hc2
            have HPk2 := Lib.hid hpk2
            have HMe := Lib.hid (HMea.out _ hc2)
            clear hf2 hc2 hpk2 hfx
            go_wp2_with fail
            refine ⟨⟨trivial, q + 1, d + 1, g, n0 + 1, acc ++ [S[q]'hlt], by go_num, by omega, by omega, by omega, by have := HQn.out; omega, by rw [List.length_append, List.length_singleton]; omega, HC2.out, HPk2.out, by omega, HSt.out, HF2.out, hs2⟩, HMe.out⟩
        · by_cases hx41 : S[q]'hlt = 41
          · have q92 : (((S[q]'hlt).toNat : Int) == 92) = false := by rw [hx41]; rfl
            have q40 : (((S[q]'hlt).toNat : Int) == 40) = false := by rw [hx41]; rfl
            have q41 : (((S[q]'hlt).toNat : Int) == 41) = true := by rw [hx41]; rfl
            by_cases hdd : d = 1
            · subst hdd
              have HSt : Hid (T = limited acc 1024 (n0 + 1)) := by
                unfold Hid
                rw [← HTe.out, textF, if_neg (by simpa using hx92), if_neg (by simpa using hx40), if_pos (by simpa using hx41), if_pos rfl]
              clear hx92 hx40 hx41
              by_cases hL : 1024 < acc.length
              · have HLm := Lib.hid hL
                have HLim := Lib.hid fun W => limited_any acc 1024 W
                rw [if_pos hL, if_pos hL] at HLim
                clear hL
                go_wp2_with fail
                go_quiet (fail)
                go_wp2_with fail
                go_quiet (fail)
                go_wp2_with fail
                refine (pk_string (HKeep.out _ (HPut.out _).2)).mono ?_
                rintro e w2 ⟨rfl, hfx⟩
                obtain ⟨hf2, hc2, hs2⟩ := HFin.out _ _ (HPut.out _).2 (HPut.out _).1 hfx
                have HF3 := Lib.hid hf2
                have HC3 := Lib.hid hc2
                clear hf2 hc2 hfx
                generalize hsv : (⟨acc.toArray⟩ : ByteArray) = sv at *
                have HSv := Lib.hid hsv
                clear hsv
                go_wp2_with fail
                refine (HLim.out _).mono ?_
                rintro e w3 ⟨rfl, rfl⟩
                go_wp2_with fail
                refine bodyPost_ret (v := .tuple #[.string ⟨#[]⟩, .int .i64 2]) (by simp [results, Tryd.results49, go_sem]) rfl ?_
                exact txt_bad (by rw [HSt.out]; unfold limited; rw [if_pos HLm.out]) HF3.out rfl
              · have HLm := Lib.hid hL
                have HLim := Lib.hid fun W => limited_any acc 1024 W
                rw [if_neg hL, if_neg hL] at HLim
                clear hL
                go_wp2_with fail
                go_quiet (fail)
                go_wp2_with fail
                go_quiet (fail)
                go_wp2_with fail
                refine (pk_string (HKeep.out _ (HPut.out _).2)).mono ?_
                rintro e w2 ⟨rfl, hfx⟩
                obtain ⟨hf2, hc2, hs2⟩ := HFin.out _ _ (HPut.out _).2 (HPut.out _).1 hfx
                have HF3 := Lib.hid hf2
                have HC3 := Lib.hid hc2
                clear hf2 hc2 hfx
                generalize hsv : (⟨acc.toArray⟩ : ByteArray) = sv at *
                have HSv := Lib.hid hsv
                clear hsv
                go_wp2_with fail
                refine (HLim.out _).mono ?_
                rintro e w3 ⟨rfl, rfl⟩
                go_wp2_with fail
                refine bodyPost_ret (v := .tuple #[.string sv, .int .i64 0]) (by simp [results, Tryd.results49, go_sem]) rfl ?_
                rw [← HSv.out]
                exact txt_ok (t := acc) (n := n0 + 1) (by rw [HSt.out]; unfold limited; rw [if_neg HLm.out]) HF3.out rfl (by have := HQn.out; rw [show p + (n0 + 1) = q + 1 by omega]; exact HC3.out)
            · have HSt : Hid (textF g (d - 1) ((bys S).drop (q + 1)) (acc ++ [S[q]'hlt]) (n0 + 1) = T) := by
                unfold Hid
                rw [← HTe.out, textF, if_neg (by simpa using hx92), if_neg (by simpa using hx40), if_pos (by simpa using hx41), if_neg hdd]
              obtain ⟨d', rfl⟩ : ∃ d', d = d' + 1 := ⟨d - 1, by omega⟩
              have hd0 : 1 ≤ d' := by omega
              have hde : ((d' : Int) == 0) = false := by rw [beq_eq_false_iff_ne]; omega
              clear hx92 hx40 hx41
              go_wp2_with fail
              go_quiet (fail)
              go_wp2_with fail
              go_quiet (fail)
              go_wp2_with fail
              refine (HWB.out _ (S[q]'hlt) (HPut.out _).2).mono ?_
              rintro e w2 ⟨rfl, hpk2, hfx⟩
              obtain ⟨hf2, hc2, hs2⟩ := HFin.out _ _ (HPut.out _).2 (HPut.out _).1 hfx
              have HF2 := Lib.hid hf2
              have HC2 := Lib.hid hc2
              have HPk2 := Lib.hid hpk2
              have HMe := Lib.hid (HMea.out _ hc2)
              clear hf2 hc2 hpk2 hfx
              go_wp2_with fail
              refine ⟨⟨trivial, q + 1, d' + 1 - 1, g, n0 + 1, acc ++ [S[q]'hlt], by go_num, by omega, by omega, by omega, by have := HQn.out; omega, by rw [List.length_append, List.length_singleton]; omega, HC2.out, HPk2.out, by omega, HSt.out, HF2.out, hs2⟩, HMe.out⟩
          · have q92 : (((S[q]'hlt).toNat : Int) == 92) = false := bt_ne (S[q]'hlt) 92 hx92
            have q40 : (((S[q]'hlt).toNat : Int) == 40) = false := bt_ne (S[q]'hlt) 40 hx40
            have q41 : (((S[q]'hlt).toNat : Int) == 41) = false := bt_ne (S[q]'hlt) 41 hx41
            have HSt : Hid (textF g d ((bys S).drop (q + 1)) (acc ++ [S[q]'hlt]) (n0 + 1) = T) := by
              unfold Hid
              rw [← HTe.out, textF, if_neg (by simpa using hx92), if_neg (by simpa using hx40), if_neg (by simpa using hx41)]
            clear hx92 hx40 hx41
            go_wp2_with fail
            go_quiet (fail)
            go_wp2_with fail
            go_quiet (fail)
            go_wp2_with fail
            refine (HWB.out _ (S[q]'hlt) (HPut.out _).2).mono ?_
            rintro e w2 ⟨rfl, hpk2, hfx⟩
            obtain ⟨hf2, hc2, hs2⟩ := HFin.out _ _ (HPut.out _).2 (HPut.out _).1 hfx
            have HF2 := Lib.hid hf2
            have HC2 := Lib.hid hc2
            have HPk2 := Lib.hid hpk2
            have HMe := Lib.hid (HMea.out _ hc2)
            clear hf2 hc2 hpk2 hfx
            go_wp2_with fail
            refine ⟨⟨trivial, q + 1, d, g, n0 + 1, acc ++ [S[q]'hlt], by go_num, by omega, by omega, by omega, by have := HQn.out; omega, by rw [List.length_append, List.length_singleton]; omega, HC2.out, HPk2.out, by omega, HSt.out, HF2.out, hs2⟩, HMe.out⟩
    · have hqe : q = S.size := by omega
      have HSt : Hid (T = .error 12) := by
        unfold Hid
        rw [← HTe.out, List.drop_eq_nil_of_le (by rw [bys_len]; omega)]; rfl
      subst hqe
      clear hlt
      go_wp2_with fail
      go_quiet (fail)
      go_wp2_with fail
      refine bodyPost_ret (v := .tuple #[.string ⟨#[]⟩, .int .i64 12]) (by simp [results, Tryd.results49, go_sem]) rfl ?_
      exact txt_bad HSt.out (HFr.out.drewN _) rfl
end Go.Proofs.YtenhaohooknkfaaDoor
