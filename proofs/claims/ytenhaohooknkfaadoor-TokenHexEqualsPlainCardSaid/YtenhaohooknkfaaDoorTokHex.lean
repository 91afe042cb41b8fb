/- The walk of the cursor's hex. -/
import Derived.Test.YtenhaohooknkfaaDoorTokText
import Derived.Handy
namespace Go.Proofs.YtenhaohooknkfaaDoor
open Go.RowKit Tk
set_option maxHeartbeats 8000000 in
theorem hex_str (S : ByteArray) (cb p : Nat) (w : World) (h : Cu w cb S p) (hp : p ≤ S.size) (hs : S.size ≤ 100000) :
    Calls Tryd.prog 50 #[.pointer (some ⟨cb, 0, none⟩)] w (TxtPost S cb p (hex ((bys S).drop p)) w) := by
  have hcl := h.cells.2.2.2
  have hb1 := (FrS.refl w.heap.size (fun k => k = cb) w).alloc (Nat.le_refl _) (.cells #[.pointer none, .slice none 0 0] 52)
  have hc1 := Blk.alloc h (.cells #[.pointer none, .slice none 0 0] 52)
  have hk1 : Pk (w.heap.size + 1) w.heap.size [] (w.alloc (.cells #[.pointer none, .slice none 0 0] 52)) := pk_fresh (Blk.new w _ _)
  have hs1 : Hid ((w.alloc (.cells #[.pointer none, .slice none 0 0] 52)).heap.size = w.heap.size + 1) := by unfold Hid; simp
  have HB1 := Lib.hid hb1
  have HC1 : Hid (Cu (w.alloc (.cells #[.pointer none, .slice none 0 0] 52)) cb S p) := hc1
  have HK1 := Lib.hid hk1
  have HPost : Hid (∀ e w', TxtPost S cb p (hex ((bys S).drop p)) w e w' → TxtPost S cb p (hex ((bys S).drop p)) w e w') := fun _ _ h => h
  have HTx : Hid (hex ((bys S).drop p) = hexL 0 false ((bys S).drop p) [] 0) := rfl
  generalize hex ((bys S).drop p) = T at *
  clear h hb1 hc1 hk1
  go_enter Tryd.func50, Tryd.ntmps50
  go_wp2_with fail
  generalize w.alloc (.cells #[.pointer none, .slice none 0 0] 52) = w1 at *
  go_loopw [6, 5] (fun v6 v5 wq => True ∧ ∃ (q d n0 : Nat) (hh : UInt8) (acc : Src), v6 = .int .i64 d ∧ v5 = .int .u8 (bt hh) ∧ bt hh ≤ 15 ∧ d ≤ n0 ∧ q ≤ S.size ∧ q = p + n0 ∧ acc.length ≤ n0 ∧ Cu wq cb S q ∧ Pk (w.heap.size + 1) w.heap.size acc wq ∧ hexL hh (d % 2 == 1) ((bys S).drop q) acc n0 = T ∧ FrS w.heap.size (fun k => k = cb) w wq ∧ w.heap.size + 1 ≤ wq.heap.size) (fun _ _ wq => S.size - (intOf ((wq.cell? ⟨cb, 1, none⟩).getD .nilIface)).toNat)
  case atStart => exact ⟨trivial, p, 0, 0, 0, [], rfl, rfl, by decide, Nat.le_refl _, hp, rfl, Nat.le_refl _, HC1.out, HK1.out, HTx.out.symm, HB1.out, by rw [hs1.out]; exact Nat.le_refl _⟩
  case round =>
    obtain ⟨-, q, d, n0, hh, acc, rfl, rfl, hh15, hdn, hq, hqn, hal, hcu, hpk, htx, hfr, hsz⟩ := hrel
    have HQn := Lib.hid hqn
    have hn0 : n0 ≤ q := by omega
    clear hqn
    obtain ⟨c0, c1, cf, cl⟩ := hcu.cells
    have HCu := Lib.hid hcu
    have HFr := Lib.hid hfr
    have HTe := Lib.hid htx
    have HWB : Hid (∀ W c, FrS wr.heap.size (fun k => k = cb) wr W → Calls Tryd.prog 25 #[.pointer (some ⟨w.heap.size, 0, none⟩), .int .u8 (bt c)] W fun e w' => e = .returned .nilIface ∧ Pk (w.heap.size + 1) w.heap.size (acc ++ [c]) w' ∧ FrX (w.heap.size + 1) w.heap.size W w') := fun W c hf =>
      (pk_byte (hpk.fr hf (Nat.le_refl _) fun k e => by omega) c (bt c) rfl (by omega) (Nat.le_trans hsz hf.size)).mono fun _ _ h => ⟨h.1, h.2.1, h.2.2.1⟩
    have HKeep : Hid (∀ W, FrS wr.heap.size (fun k => k = cb) wr W → Pk (w.heap.size + 1) w.heap.size acc W) := fun W hf => hpk.fr hf (Nat.le_refl _) fun k e => by omega
    have HPk := Lib.hid hpk
    have HMea : Hid (∀ W : World, Cu W cb S (q + 1) → q < S.size → S.size - (intOf ((W.cell? ⟨cb, 1, none⟩).getD .nilIface)).toNat < S.size - (intOf ((wr.cell? ⟨cb, 1, none⟩).getD .nilIface)).toNat) := fun W h hq => by
      rw [h.cells.2.1, c1]
      simp [intOf]; omega
    clear hcu hfr htx hpk
    by_cases hlt : q < S.size
    · have hi1 : (q : Int) < (S.size : Int) := by omega
      have hdt : decide ((q : Int) < (S.size : Int)) = true := decide_eq_true hi1
      have HDr := Lib.hid (drop_byte S q hlt)
      rw [HDr.out] at HTe
      have HMea := Lib.hid fun W h => HMea.out W h hlt
      have HPut : Hid (∀ n, Cu ((wr.drewN n).setCell ⟨cb, 1, none⟩ (.int .i64 ((q : Int) + 1))) cb S (q + 1) ∧ FrS wr.heap.size (fun k => k = cb) wr ((wr.drewN n).setCell ⟨cb, 1, none⟩ (.int .i64 ((q : Int) + 1)))) := fun n =>
        ⟨Cu.put (w := wr.drewN n) HCu.out (q + 1), ((FrS.refl wr.heap.size (fun k => k = cb) wr).drewN n).put (p := ⟨cb, 1, none⟩) (.inr rfl) _⟩
      have HFin : Hid (∀ W w', FrS wr.heap.size (fun k => k = cb) wr W → Cu W cb S (q + 1) → FrX (w.heap.size + 1) w.heap.size W w' → FrS w.heap.size (fun k => k = cb) w w' ∧ Cu w' cb S (q + 1) ∧ w.heap.size + 1 ≤ w'.heap.size) := fun W w' h1 h2 h3 =>
        ⟨(HFr.out.trans (h1.weak (by omega) fun _ _ e => e)).trans (FrS.weak (FrS.of_x (S := fun k => k = w.heap.size) h3 rfl) (Nat.le_succ _) fun k hk e => by omega), Cu.fr h2 (FrS.of_x (S := fun k => k = w.heap.size) h3 rfl) (by omega) (by omega), by have := h1.size; have := h3.size; omega⟩
      have HPz : Hid (∀ n, FrS w.heap.size (fun k => k = cb) w ((wr.drewN n).setCell ⟨cb, 1, none⟩ (.int .i64 ((q : Int) + 1)))) := fun n => HFr.out.trans ((HPut.out n).2.weak (by omega) fun _ _ e => e)
      have HPs : Hid (∀ n, w.heap.size + 1 ≤ ((wr.drewN n).setCell ⟨cb, 1, none⟩ (.int .i64 ((q : Int) + 1))).heap.size) := fun n => Nat.le_trans hsz (HPut.out n).2.size
      have HWh := Lib.hid fun W => white_any (S[q]'hlt) W
      have HHx := Lib.hid fun W => hex_any (S[q]'hlt) W
      by_cases hw : white (S[q]'hlt) = true
      · have HSt : Hid (hexL hh (d % 2 == 1) ((bys S).drop (q + 1)) acc (n0 + 1) = T) := by
          unfold Hid
          rw [← HTe.out, hexL, if_pos hw]
        rw [hw] at HWh
        clear hw HHx
        go_wp2_with fail
        go_quiet (fail)
        go_wp2_with fail
        go_quiet (fail)
        go_wp2_with fail
        refine (HWh.out _).mono ?_
        rintro e w2 ⟨rfl, rfl⟩
        go_wp2_with fail
        exact ⟨⟨trivial, q + 1, d, n0 + 1, hh, acc, rfl, rfl, by omega, by omega, by omega, by have := HQn.out; omega, by omega, (HPut.out _).1, HKeep.out _ (HPut.out _).2, HSt.out, HPz.out _, HPs.out _⟩, HMea.out _ (HPut.out _).1⟩
      · replace hw : white (S[q]'hlt) = false := by simpa using hw
        by_cases ho : d % 2 = 1
        · replace ho : (d % 2 == 1) = true := by simpa using ho
          have ho2 : d % 2 = 1 := by have := beq_iff_eq (a := d % 2) (b := 1); simp at ho; omega
          have he : ((d % 2 == 1)) = true := ho
          have he2 : ((d + 1) % 2 == 1) = false := by simp; omega
          have hr1 : Int.tmod (d : Int) 2 = 1 := by rw [show (2 : Int) = ((2 : Nat) : Int) from rfl, ← Int.ofNat_tmod, ho2]; rfl
          have hr2 : Int.tmod ((d : Int) + 1) 2 = 0 := by rw [show (2 : Int) = ((2 : Nat) : Int) from rfl, show (d : Int) + 1 = ((d + 1 : Nat) : Int) from rfl, ← Int.ofNat_tmod, show (d + 1) % 2 = 0 by omega]; rfl
          by_cases h62 : S[q]'hlt = 62
          · have q62 : (((S[q]'hlt).toNat : Int) == 62) = true := by rw [h62]; rfl
            clear h62
            cases hhv : hexV (S[q]'hlt) with
            | none =>
              have HSt : Hid (T = .error 5) := by
                unfold Hid
                rw [← HTe.out, hexL, if_neg (by rw [hw]; decide), if_neg (by rw [ho]; simp), hhv]
              rw [hw] at HWh
              have hxe : hexR (S[q]'hlt) = .tuple #[.int .u8 0, .bool false] := by unfold hexR; rw [hhv]
              rw [hxe] at HHx
              clear hw hhv hxe
              go_wp2_with fail
              go_quiet (fail)
              go_wp2_with fail
              go_quiet (fail)
              go_wp2_with fail
              refine (HWh.out _).mono ?_
              rintro e w2 ⟨rfl, rfl⟩
              go_wp2_with fail
              refine (HHx.out _).mono ?_
              rintro e w2 ⟨rfl, rfl⟩
              go_wp2_with fail
              refine bodyPost_ret (v := .tuple #[.string ⟨#[]⟩, .int .i64 5]) (by simp [results, Tryd.results50, go_sem]) rfl ?_
              exact txt_bad HSt.out (HPz.out _) rfl
            | some v =>
              have hv15 : bt v ≤ 15 := by
                obtain ⟨v', ok, e1, b1, t1, f1⟩ := hex_two (S[q]'hlt)
                cases ok with
                | true => rw [hhv] at t1; rw [Option.some.inj (t1 rfl)]; exact b1
                | false => rw [hhv] at f1; cases f1 rfl
              have hnn := (bt_nn v).1
              have hnh := (bt_nn hh).1
              have HSt : Hid (hexL v ((d + 1) % 2 == 1) ((bys S).drop (q + 1)) (acc ++ [hh <<< 4 ||| v]) (n0 + 1) = T) := by
                unfold Hid
                rw [← HTe.out, hexL, if_neg (by rw [hw]; decide), if_neg (by rw [ho]; simp), hhv]
                dsimp only
                rw [if_pos ho, he2]
              rw [hw] at HWh
              have hxe : hexR (S[q]'hlt) = .tuple #[.int .u8 (bt v), .bool true] := by unfold hexR; rw [hhv]
              rw [hxe] at HHx
              clear hw hhv hxe
              have hor := or_hex hh v hh15 hv15
              go_wp2_with fail
              go_quiet (fail)
              go_wp2_with fail
              go_quiet (fail)
              go_wp2_with fail
              refine (HWh.out _).mono ?_
              rintro e w2 ⟨rfl, rfl⟩
              go_wp2_with fail
              refine (HHx.out _).mono ?_
              rintro e w2 ⟨rfl, rfl⟩
              go_wp2_with fail
              refine (HWB.out _ (hh <<< 4 ||| v) (HPut.out _).2).mono ?_
              rintro e w2 ⟨rfl, hpk2, hfx⟩
              obtain ⟨hf2, hc2, hs2⟩ := HFin.out _ _ (HPut.out _).2 (HPut.out _).1 hfx
              have HF2 := Lib.hid hf2
              have HC2 := Lib.hid hc2
              have HPk2 := Lib.hid hpk2
              have HMe := Lib.hid (HMea.out _ hc2)
              clear hf2 hc2 hpk2 hfx
              go_wp2_with fail
              refine ⟨⟨trivial, q + 1, d + 1, n0 + 1, v, acc ++ [hh <<< 4 ||| v], by go_num, rfl, by omega, by omega, by omega, by have := HQn.out; omega, by rw [List.length_append, List.length_singleton]; omega, HC2.out, HPk2.out, HSt.out, HF2.out, hs2⟩, HMe.out⟩
          · have q62 : (((S[q]'hlt).toNat : Int) == 62) = false := bt_ne (S[q]'hlt) 62 h62
            clear h62
            cases hhv : hexV (S[q]'hlt) with
            | none =>
              have HSt : Hid (T = .error 5) := by
                unfold Hid
                rw [← HTe.out, hexL, if_neg (by rw [hw]; decide), if_neg (by rw [ho]; simp), hhv]
              rw [hw] at HWh
              have hxe : hexR (S[q]'hlt) = .tuple #[.int .u8 0, .bool false] := by unfold hexR; rw [hhv]
              rw [hxe] at HHx
              clear hw hhv hxe
              go_wp2_with fail
              go_quiet (fail)
              go_wp2_with fail
              go_quiet (fail)
              go_wp2_with fail
              refine (HWh.out _).mono ?_
              rintro e w2 ⟨rfl, rfl⟩
              go_wp2_with fail
              refine (HHx.out _).mono ?_
              rintro e w2 ⟨rfl, rfl⟩
              go_wp2_with fail
              refine bodyPost_ret (v := .tuple #[.string ⟨#[]⟩, .int .i64 5]) (by simp [results, Tryd.results50, go_sem]) rfl ?_
              exact txt_bad HSt.out (HPz.out _) rfl
            | some v =>
              have hv15 : bt v ≤ 15 := by
                obtain ⟨v', ok, e1, b1, t1, f1⟩ := hex_two (S[q]'hlt)
                cases ok with
                | true => rw [hhv] at t1; rw [Option.some.inj (t1 rfl)]; exact b1
                | false => rw [hhv] at f1; cases f1 rfl
              have hnn := (bt_nn v).1
              have hnh := (bt_nn hh).1
              have HSt : Hid (hexL v ((d + 1) % 2 == 1) ((bys S).drop (q + 1)) (acc ++ [hh <<< 4 ||| v]) (n0 + 1) = T) := by
                unfold Hid
                rw [← HTe.out, hexL, if_neg (by rw [hw]; decide), if_neg (by rw [ho]; simp), hhv]
                dsimp only
                rw [if_pos ho, he2]
              rw [hw] at HWh
              have hxe : hexR (S[q]'hlt) = .tuple #[.int .u8 (bt v), .bool true] := by unfold hexR; rw [hhv]
              rw [hxe] at HHx
              clear hw hhv hxe
              have hor := or_hex hh v hh15 hv15
              go_wp2_with fail
              go_quiet (fail)
              go_wp2_with fail
              go_quiet (fail)
              go_wp2_with fail
              refine (HWh.out _).mono ?_
              rintro e w2 ⟨rfl, rfl⟩
              go_wp2_with fail
              refine (HHx.out _).mono ?_
              rintro e w2 ⟨rfl, rfl⟩
              go_wp2_with fail
              refine (HWB.out _ (hh <<< 4 ||| v) (HPut.out _).2).mono ?_
              rintro e w2 ⟨rfl, hpk2, hfx⟩
              obtain ⟨hf2, hc2, hs2⟩ := HFin.out _ _ (HPut.out _).2 (HPut.out _).1 hfx
              have HF2 := Lib.hid hf2
              have HC2 := Lib.hid hc2
              have HPk2 := Lib.hid hpk2
              have HMe := Lib.hid (HMea.out _ hc2)
              clear hf2 hc2 hpk2 hfx
              go_wp2_with fail
              refine ⟨⟨trivial, q + 1, d + 1, n0 + 1, v, acc ++ [hh <<< 4 ||| v], by go_num, rfl, by omega, by omega, by omega, by have := HQn.out; omega, by rw [List.length_append, List.length_singleton]; omega, HC2.out, HPk2.out, HSt.out, HF2.out, hs2⟩, HMe.out⟩
        · replace ho : (d % 2 == 1) = false := by simpa using ho
          have ho2 : d % 2 = 0 := by have := beq_iff_eq (a := d % 2) (b := 1); simp at ho; omega
          have he : ((d % 2 == 1)) = false := ho
          have he2 : ((d + 1) % 2 == 1) = true := by simp; omega
          have hr1 : Int.tmod (d : Int) 2 = 0 := by rw [show (2 : Int) = ((2 : Nat) : Int) from rfl, ← Int.ofNat_tmod, ho2]; rfl
          have hr2 : Int.tmod ((d : Int) + 1) 2 = 1 := by rw [show (2 : Int) = ((2 : Nat) : Int) from rfl, show (d : Int) + 1 = ((d + 1 : Nat) : Int) from rfl, ← Int.ofNat_tmod, show (d + 1) % 2 = 1 by omega]; rfl
          by_cases h62 : S[q]'hlt = 62
          · have HSt : Hid (T = limited acc 1024 (n0 + 1)) := by
              unfold Hid
              rw [← HTe.out, hexL, if_neg (by rw [hw]; decide), if_pos (by rw [he]; simp [h62])]
            have q62 : (((S[q]'hlt).toNat : Int) == 62) = true := by rw [h62]; rfl
            rw [hw] at HWh
            clear hw HHx h62
            have HLim := Lib.hid fun W => limited_any acc 1024 W
            by_cases hL : 1024 < acc.length
            · have HLm := Lib.hid hL
              rw [if_pos hL, if_pos hL] at HLim
              clear hL
              go_wp2_with fail
              go_quiet (fail)
              go_wp2_with fail
              go_quiet (fail)
              go_wp2_with fail
              refine (HWh.out _).mono ?_
              rintro e w2 ⟨rfl, rfl⟩
              go_wp2_with fail
              refine (pk_string (HKeep.out _ (HPut.out _).2)).mono ?_
              rintro e w2 ⟨rfl, hfx⟩
              obtain ⟨hf2, hc2, hs2⟩ := HFin.out _ _ (HPut.out _).2 (HPut.out _).1 hfx
              have HF3 := Lib.hid hf2
              have HC3 := Lib.hid hc2
              clear hf2 hc2 hfx
              generalize hsv : (⟨acc.toArray⟩ : ByteArray) = sv at *
              have HSv := Lib.hid hsv
              clear hsv
              go_wp2_with fail
              refine (HLim.out _).mono ?_
              rintro e w3 ⟨rfl, rfl⟩
              go_wp2_with fail
              refine bodyPost_ret (v := .tuple #[.string ⟨#[]⟩, .int .i64 2]) (by simp [results, Tryd.results50, go_sem]) rfl ?_
              exact txt_bad (by rw [HSt.out]; unfold limited; rw [if_pos HLm.out]) HF3.out rfl
            · have HLm := Lib.hid hL
              rw [if_neg hL, if_neg hL] at HLim
              clear hL
              go_wp2_with fail
              go_quiet (fail)
              go_wp2_with fail
              go_quiet (fail)
              go_wp2_with fail
              refine (HWh.out _).mono ?_
              rintro e w2 ⟨rfl, rfl⟩
              go_wp2_with fail
              refine (pk_string (HKeep.out _ (HPut.out _).2)).mono ?_
              rintro e w2 ⟨rfl, hfx⟩
              obtain ⟨hf2, hc2, hs2⟩ := HFin.out _ _ (HPut.out _).2 (HPut.out _).1 hfx
              have HF3 := Lib.hid hf2
              have HC3 := Lib.hid hc2
              clear hf2 hc2 hfx
              generalize hsv : (⟨acc.toArray⟩ : ByteArray) = sv at *
              have HSv := Lib.hid hsv
              clear hsv
              go_wp2_with fail
              refine (HLim.out _).mono ?_
              rintro e w3 ⟨rfl, rfl⟩
              go_wp2_with fail
              refine bodyPost_ret (v := .tuple #[.string sv, .int .i64 0]) (by simp [results, Tryd.results50, go_sem]) rfl ?_
              rw [← HSv.out]
              exact txt_ok (t := acc) (n := n0 + 1) (by rw [HSt.out]; unfold limited; rw [if_neg HLm.out]) HF3.out rfl (by have := HQn.out; rw [show p + (n0 + 1) = q + 1 by omega]; exact HC3.out)
          · have q62 : (((S[q]'hlt).toNat : Int) == 62) = false := bt_ne (S[q]'hlt) 62 h62
            cases hhv : hexV (S[q]'hlt) with
            | none =>
              have HSt : Hid (T = .error 5) := by
                unfold Hid
                rw [← HTe.out, hexL, if_neg (by rw [hw]; decide), if_neg (by simpa using fun e => (h62 e).elim), hhv]
              rw [hw] at HWh
              have hxe : hexR (S[q]'hlt) = .tuple #[.int .u8 0, .bool false] := by unfold hexR; rw [hhv]
              rw [hxe] at HHx
              clear hw hhv hxe
              go_wp2_with fail
              go_quiet (fail)
              go_wp2_with fail
              go_quiet (fail)
              go_wp2_with fail
              refine (HWh.out _).mono ?_
              rintro e w2 ⟨rfl, rfl⟩
              go_wp2_with fail
              refine (HHx.out _).mono ?_
              rintro e w2 ⟨rfl, rfl⟩
              go_wp2_with fail
              refine bodyPost_ret (v := .tuple #[.string ⟨#[]⟩, .int .i64 5]) (by simp [results, Tryd.results50, go_sem]) rfl ?_
              exact txt_bad HSt.out (HPz.out _) rfl
            | some v =>
              have hv15 : bt v ≤ 15 := by
                obtain ⟨v', ok, e1, b1, t1, f1⟩ := hex_two (S[q]'hlt)
                cases ok with
                | true => rw [hhv] at t1; rw [Option.some.inj (t1 rfl)]; exact b1
                | false => rw [hhv] at f1; cases f1 rfl
              have hnn := (bt_nn v).1
              have hnh := (bt_nn hh).1
              have HSt : Hid (hexL v ((d + 1) % 2 == 1) ((bys S).drop (q + 1)) acc (n0 + 1) = T) := by
                unfold Hid
                rw [← HTe.out, hexL, if_neg (by rw [hw]; decide), if_neg (by simpa using fun e => (h62 e).elim), hhv]
                dsimp only
                rw [if_neg (by rw [ho]; decide), he2]
              rw [hw] at HWh
              have hxe : hexR (S[q]'hlt) = .tuple #[.int .u8 (bt v), .bool true] := by unfold hexR; rw [hhv]
              rw [hxe] at HHx
              clear hw hhv hxe
              go_wp2_with fail
              go_quiet (fail)
              go_wp2_with fail
              go_quiet (fail)
              go_wp2_with fail
              refine (HWh.out _).mono ?_
              rintro e w2 ⟨rfl, rfl⟩
              go_wp2_with fail
              refine (HHx.out _).mono ?_
              rintro e w2 ⟨rfl, rfl⟩
              go_wp2_with fail
              exact ⟨⟨trivial, q + 1, d + 1, n0 + 1, v, acc, by go_num, rfl, by omega, by omega, by omega, by have := HQn.out; omega, by omega, (HPut.out _).1, HKeep.out _ (HPut.out _).2, HSt.out, HPz.out _, HPs.out _⟩, HMea.out _ (HPut.out _).1⟩
    · have hqe : q = S.size := by omega
      have HSt : Hid (T = .error 12) := by
        unfold Hid
        rw [← HTe.out, List.drop_eq_nil_of_le (by rw [bys_len]; omega)]; rfl
      subst hqe
      clear hlt
      go_wp2_with fail
      go_quiet (fail)
      go_wp2_with fail
      refine bodyPost_ret (v := .tuple #[.string ⟨#[]⟩, .int .i64 12]) (by simp [results, Tryd.results50, go_sem]) rfl ?_
      exact txt_bad HSt.out (HFr.out.drewN _) rfl
end Go.Proofs.YtenhaohooknkfaaDoor
