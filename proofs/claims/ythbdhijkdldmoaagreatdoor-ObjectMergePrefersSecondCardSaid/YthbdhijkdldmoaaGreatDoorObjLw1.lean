/- The walks of number and parses. The first two laws. -/
import Derived.Test.YthbdhijkdldmoaaGreatDoorObjGet
import Derived.Test.YthbdhijkdldmoaaGreatDoorObjPar
namespace Go.Proofs.YthbdhijkdldmoaaGreatDoor
open Go.RowKit Tk Ob
def Ox.num (n : Int) : Ox := .mk 2 n [] [] []
theorem num_v (P : Nat → Prop) (w : World) (n : Int) : ObjV P w ⟨.int .i64 2, .int .i64 n, .string ⟨#[]⟩, .slice none 0 0, .slice none 0 0⟩ (Ox.num n) := ObjV.leaf P w 2 n []
theorem number_any (n : Int) (w : World) : Calls Tryz.prog 19 #[.int .i64 n] w fun e w' => e = .returned (.agg #[.int .i64 2, .int .i64 n, .string ⟨#[]⟩, .slice none 0 0, .slice none 0 0]) ∧ Below w.heap.size w w' := by
  have hb0 := Blk.new w 25 #[.int .i64 0, .int .i64 0, .string ⟨#[]⟩, .slice none 0 0, .slice none 0 0]
  have HB := Lib.hid hb0
  have hbl := Lib.hid ((Below.refl w.heap.size w).alloc (Nat.le_refl _) (.cells #[.int .i64 0, .int .i64 0, .string ⟨#[]⟩, .slice none 0 0, .slice none 0 0] 25))
  clear hb0
  go_enter Tryz.func19, Tryz.ntmps19
  go_wp2_with fail
  have hb0 := Blk.new w 25 #[.int .i64 2, .int .i64 n, .string ⟨#[]⟩, .slice none 0 0, .slice none 0 0]
  have hbl2 := (Below.refl w.heap.size w).alloc (Nat.le_refl _) (.cells #[.int .i64 2, .int .i64 n, .string ⟨#[]⟩, .slice none 0 0, .slice none 0 0] 25)
  refine bodyPost_ret (v := .agg #[.int .i64 2, .int .i64 n, .string ⟨#[]⟩, .slice none 0 0, .slice none 0 0]) ?_ rfl ⟨rfl, hbl2⟩
  obtain ⟨z0, z1, z2, z3, z4⟩ := b5_cells (v := ⟨.int .i64 2, .int .i64 n, .string ⟨#[]⟩, .slice none 0 0, .slice none 0 0⟩) hb0
  clear hbl2 hb0
  generalize World.alloc _ _ = W at *
  simp [results, Tryz.results19, go_sem, z0, z1, z2, z3, z4]
theorem parse_45 : parseO [91, 52, 32, 53, 93] = some (.mk 6 0 [] [] [Ox.num 4, Ox.num 5]) := by
  kernel_rfl
theorem get_45 : getF (.mk 6 0 [] [] [Ox.num 4, Ox.num 5]) [[49]] = .ok (Ox.num 5) := by
  kernel_rfl
set_option maxRecDepth 100000 in
set_option maxHeartbeats 16000000 in
theorem parses_any (w : World) (hT : Tab10 w) (hE : ErrT w) : Calls Tryz.prog 9 #[] w fun e w' => e = .returned (.bool true) ∧ Below w.heap.size w w' := by
  have HT : Hid (∀ W, Below w.heap.size w W → Tab10 W) := fun W h => hT.later h
  have HE : Hid (∀ W, Below w.heap.size w W → ErrT W) := fun W h => hE.later h
  have HPa := Lib.hid (parse_any ⟨#[91, 52, 32, 53, 93]⟩ w hT)
  have e1 : bys ⟨#[91, 52, 32, 53, 93]⟩ = [91, 52, 32, 53, 93] := rfl
  rw [e1, parse_45] at HPa
  clear hT hE e1
  go_enter Tryz.func9, Tryz.ntmps9
  go_wp2_with fail
  refine HPa.out.mono ?_
  rintro e w1 ⟨hbl1, v, hov, rfl⟩
  have HBl1 := Lib.hid hbl1
  have HGe : Hid (∀ W pv, Below w1.heap.size w1 W → Sl W (fun _ => True) pv (strs [[49]]) → Calls Tryz.prog 15 #[v.val, pv] W (ObPost (.ok (Ox.num 5)) W)) := fun W pv hW hp => by
    have h1 : Below w.heap.size w W := hbl1.trans (hW.mono hbl1.size)
    have := get_any _ (fun _ => True) _ v pv [[49]] W (hov.later hW) hp (by simp) (HT.out W h1) (HE.out W h1)
    rwa [get_45] at this
  obtain ⟨kv, dv, us, rfl, s1, s2, -, -⟩ := hov.open_
  obtain ⟨A1, c1, rfl⟩ := s1.form
  obtain ⟨B1, d1, rfl⟩ := s2.form
  simp only [Ox.kind, Ox.int, Ox.text, Ox.keys, Ox.kids, show (strs []).length = 0 from rfl, show ([Ox.num 4, Ox.num 5] : List Ox).length = 2 from rfl] at HGe s1 s2 ⊢
  unfold V5.val at HGe ⊢
  dsimp only at HGe ⊢
  clear hov s1 s2 hbl1 HPa
  have hb1 := Lib.hid ((Blk.new w1 25 #[.int .i64 6, .int .i64 0, .string ⟨#[]⟩, .slice A1 0 c1, .slice B1 2 d1]))
  go_wp2_with fail
  have hbl2 : Below w1.heap.size w1 ((w1.alloc (.cells #[.int .i64 6, .int .i64 0, .string ⟨#[]⟩, .slice A1 0 c1, .slice B1 2 d1] 25)).alloc (.cells #[.string ⟨#[49]⟩] 9)) := ((Below.refl _ _).alloc (Nat.le_refl _) _).alloc (by simp) _
  have hrow : ((w1.alloc (.cells #[.int .i64 6, .int .i64 0, .string ⟨#[]⟩, .slice A1 0 c1, .slice B1 2 d1] 25)).alloc (.cells #[.string ⟨#[49]⟩] 9)).ownsRow 0 9 1 (.slice (some ⟨w1.heap.size + 1, 0, none⟩) 1 1) 1 [.string ⟨#[49]⟩] :=
    ⟨rfl, .inr ⟨w1.heap.size + 1, 1, #[.string ⟨#[49]⟩], rfl, Nat.zero_le _, by have := heap_alloc_new (w1.alloc (.cells #[.int .i64 6, .int .i64 0, .string ⟨#[]⟩, .slice A1 0 c1, .slice B1 2 d1] 25)) (.cells #[.string ⟨#[49]⟩] 9); simpa using this, Nat.le_refl _, by unfold maxLen; omega, by simp, by simp⟩⟩
  have hsl : Sl ((w1.alloc (.cells #[.int .i64 6, .int .i64 0, .string ⟨#[]⟩, .slice A1 0 c1, .slice B1 2 d1] 25)).alloc (.cells #[.string ⟨#[49]⟩] 9)) (fun _ => True) (.slice (some ⟨w1.heap.size + 1, 0, none⟩) 1 1) (strs [[49]]) := (Sl.of_own hrow).mono fun _ _ _ => trivial
  have hg := HGe.out _ _ hbl2 hsl
  refine hg.mono ?_
  rintro e w2 ⟨hbl3, v5, rfl, hown⟩
  have HBl2 := Lib.hid (HBl1.out.trans ((hbl2.trans (hbl3.mono hbl2.size)).mono HBl1.out.size))
  have hov := hown.objV
  clear hg hsl hrow hbl2 hbl3 hown HGe hb1
  have HSm : Hid (∀ (v2 : V5) W, Below w2.heap.size w2 W → ObjV (fun _ => True) W v2 (Ox.num 5) → Calls Tryz.prog 13 #[v5.val, v2.val] W (SmPost (Ox.num 5) (Ox.num 5) W)) := fun v2 W hW h2 => same_any _ _ _ v5 v2 _ _ W (Nat.le_refl _) (hov.later hW) h2
  obtain ⟨kv, dv, us, rfl, s1, s2, -, -⟩ := hov.open_
  obtain ⟨A1, c1, rfl⟩ := s1.form
  obtain ⟨B1, d1, rfl⟩ := s2.form
  simp only [Ox.num, Ox.kind, Ox.int, Ox.text, Ox.keys, Ox.kids, show (strs []).length = 0 from rfl, List.length_nil] at HSm s1 s2 ⊢
  unfold V5.val at HSm ⊢
  dsimp only at HSm ⊢
  clear hov s1 s2
  have hbx := Blk.new w2 25 #[.int .i64 2, .int .i64 5, .string ⟨#[]⟩, .slice A1 0 c1, .slice B1 0 d1]
  have hbw : Below w2.heap.size w2 (w2.alloc (.cells #[.int .i64 2, .int .i64 5, .string ⟨#[]⟩, .slice A1 0 c1, .slice B1 0 d1] 25)) := (Below.refl _ _).alloc (Nat.le_refl _) _
  have HKp : Hid (∀ W, Below (w2.alloc (.cells #[.int .i64 2, .int .i64 5, .string ⟨#[]⟩, .slice A1 0 c1, .slice B1 0 d1] 25)).drew.heap.size (w2.alloc (.cells #[.int .i64 2, .int .i64 5, .string ⟨#[]⟩, .slice A1 0 c1, .slice B1 0 d1] 25)).drew W → Below w2.heap.size w2 W ∧ Blk W w2.heap.size 25 #[.int .i64 2, .int .i64 5, .string ⟨#[]⟩, .slice A1 0 c1, .slice B1 0 d1]) := fun W hW =>
    ⟨(hbw.drew).trans (hW.mono hbw.drew.size), hbx.drew.below hW (by simp)⟩
  have HSm2 : Hid (∀ W, Below w2.heap.size w2 W → Calls Tryz.prog 13 #[.agg #[.int .i64 2, .int .i64 5, .string ⟨#[]⟩, .slice A1 0 c1, .slice B1 0 d1], .agg #[.int .i64 2, .int .i64 5, .string ⟨#[]⟩, .slice none 0 0, .slice none 0 0]] W fun e w' => e = .returned (.bool true) ∧ Below W.heap.size W w') := fun W hW =>
    (HSm.out ⟨.int .i64 2, .int .i64 5, .string ⟨#[]⟩, .slice none 0 0, .slice none 0 0⟩ W hW (num_v _ W 5)).mono fun e w' ⟨a, b⟩ => ⟨by rw [a, eqB_true rfl], b⟩
  clear HSm hbx hbw
  go_wp2_with fail
  go_region_with (first
    | (go_at_call 19; refine (number_any 5 _).mono ?_; rintro e w3 ⟨rfl, hb3⟩; have hk3 := HKp.out _ hb3; obtain ⟨x0, x1, x2, x3, x4⟩ := b5_cells (v := ⟨.int .i64 2, .int .i64 5, .string ⟨#[]⟩, .slice A1 0 c1, .slice B1 0 d1⟩) hk3.2)
    | (go_at_call 13; refine (HSm2.out _ hk3.1).mono ?_; rintro e w4 ⟨rfl, hb4⟩))
  all_goals
    have hk4 := HBl2.out.trans ((hk3.1.trans (hb4.mono hk3.1.size)).mono HBl2.out.size)
    clear x0 x1 x2 x3 x4 hk3 hb4
    go_simp
    go_wp2_with fail
    go_ret
    exact ⟨rfl, hk4⟩
end Go.Proofs.YthbdhijkdldmoaaGreatDoor
namespace Go.Proofs.YthbdhijkdldmoaaGreatDoor
open Go.RowKit Tk Ob
set_option maxRecDepth 100000 in
set_option maxHeartbeats 16000000 in
theorem round_law (P : Nat → Prop) (o : Ox) (vo : V5) (w : World) (ho : ObjV P w vo o) (hT : Tab10 w) (hE : ErrT w) :
    Calls Tryz.prog 3 #[vo.val] w fun e w' => e = .returned (.bool true) ∧ Below w.heap.size w w' := by
  have HPs : Hid (∀ W, Below w.heap.size w W → Calls Tryz.prog 9 #[] W fun e w' => e = .returned (.bool true) ∧ Below W.heap.size W w') := fun W h => parses_any W (hT.later h) (hE.later h)
  have ho1 := ho.mono (Q := fun k => k < w.heap.size) fun k hk _ => hk
  have hoW : ∀ W, Below w.heap.size w W → ObjV (fun k => k < w.heap.size) W vo o := fun W hW => ho1.keep hW.size fun k hk _ => hW.block k hk
  have HPr : Hid (∀ W, Below w.heap.size w W → Calls Tryz.prog 10 #[vo.val] W (PrintPost (printO o) W)) := fun W hW => print_obj _ o vo W (hoW W hW) (hT.later hW)
  have HCk : Hid (∀ W, Below w.heap.size w W → Calls Tryz.prog 11 #[vo.val] W fun e w' => e = .returned (.int .i64 (checkO o)) ∧ Below W.heap.size W w') := fun W hW => check_obj _ o vo W (hoW W hW) (hT.later hW)
  have HPa : Hid (∀ (S : ByteArray) W, Below w.heap.size w W → Calls Tryz.prog 12 #[.string S] W (ParsePost (parseO (bys S)) W)) := fun S W hW => parse_any S W (hT.later hW)
  have HSm : Hid (∀ (v2 : V5) (Q : Nat → Prop) W, Below w.heap.size w W → ObjV Q W v2 o → Calls Tryz.prog 13 #[vo.val, v2.val] W (SmPost o o W)) := fun v2 Q W hW h2 => same_any _ _ _ vo v2 _ _ W (Nat.le_refl _) (hoW W hW) h2
  obtain ⟨kv, dv, vs, rfl, h1, h2, -, -⟩ := ho1.open_
  obtain ⟨A, ck, rfl⟩ := h1.form
  obtain ⟨Bd, cd, rfl⟩ := h2.form
  unfold V5.val at HPr HCk HSm ⊢
  dsimp only at HPr HCk HSm ⊢
  generalize hnk : (strs o.keys).length = nk at *
  generalize hnd : o.kids.length = nd at *
  generalize hk0 : o.kind = k0 at *
  generalize hi0 : o.int = i0 at *
  generalize hT0 : (⟨o.text.toArray⟩ : ByteArray) = T0 at *
  clear hoW ho ho1 h1 h2 hnk hnd hk0 hi0 hT0 hT hE
  have hb0 := Blk.new w 25 #[.int .i64 k0, .int .i64 i0, .string T0, .slice A nk ck, .slice Bd nd cd]
  have HB0 := Lib.hid hb0
  have HBl0 := Lib.hid ((Below.refl w.heap.size w).alloc (Nat.le_refl _) (.cells #[.int .i64 k0, .int .i64 i0, .string T0, .slice A nk ck, .slice Bd nd cd] 25))
  clear hb0
  go_enter Tryz.func3, Tryz.ntmps3
  go_wp2_with fail
  refine (HPs.out _ HBl0.out).mono ?_
  rintro e w1 ⟨rfl, hbl1⟩
  have HBl1 := Lib.hid (HBl0.out.trans (hbl1.mono HBl0.out.size))
  have HB1 := Lib.hid (HB0.out.below hbl1 HB0.out.lt)
  obtain ⟨x0, x1, x2, x3, x4⟩ := b5_cells (v := ⟨.int .i64 k0, .int .i64 i0, .string T0, .slice A nk ck, .slice Bd nd cd⟩) HB1.out
  clear hbl1 HB0 HBl0
  go_wp2_with fail
  refine (HPr.out _ HBl1.out).mono ?_
  rintro e w2 ⟨hbl2, hr⟩
  have HBl2 := Lib.hid (HBl1.out.trans (hbl2.mono HBl1.out.size))
  have HB2 := Lib.hid (HB1.out.below hbl2 HB1.out.lt)
  clear x0 x1 x2 x3 x4
  obtain ⟨x0, x1, x2, x3, x4⟩ := b5_cells (v := ⟨.int .i64 k0, .int .i64 i0, .string T0, .slice A nk ck, .slice Bd nd cd⟩) HB2.out
  clear hbl2 HB1 HBl1
  have HC : Hid (checkO o = match printO o with | .error e => e | .ok _ => 0) := rfl
  have HPp : Hid (∀ s, printO o = .ok s → parseO s = some o ∧ s.length ≤ 8192) := fun s h => print_parse h
  generalize printO o = R at *
  generalize checkO o = C at *
  cases R with
  | error er =>
    obtain ⟨hne, rfl⟩ := hr
    have HC2 : Hid (C = er) := HC.out
    have hneb : (er != 0) = true := by simpa using hne
    go_wp2_with fail
    refine (HCk.out _ HBl2.out).mono ?_
    rintro e w3 ⟨rfl, hbl3⟩
    have HBl3 := Lib.hid (HBl2.out.trans (hbl3.mono HBl2.out.size))
    have hce : (C == er) = true := by rw [HC2.out]; simp
    clear hbl3
    go_wp2_with fail
    go_ret
    exact ⟨rfl, HBl3.out⟩
  | ok s =>
    obtain rfl := hr
    have hsl : s.length ≤ 8192 := (HPp.out s rfl).2
    have HPp2 : Hid (parseO s = some o) := (HPp.out s rfl).1
    obtain ⟨S, hS⟩ : ∃ S : ByteArray, S = ⟨s.toArray⟩ := ⟨_, rfl⟩
    rw [← hS]
    have hSz : S.size ≤ 8192 := by rw [hS, int_size]; exact hsl
    have HPa2 : Hid (∀ W, Below w.heap.size w W → Calls Tryz.prog 12 #[.string S] W (ParsePost (some o) W)) := fun W hW => by
      have := HPa.out S W hW
      rwa [hS, int_bys, HPp2.out, ← hS] at this
    clear hS HPa HPp
    go_wp2_with fail
    refine (HPa2.out _ HBl2.out).mono ?_
    rintro e w3 ⟨hbl3, v, hov, rfl⟩
    have HBl3 := Lib.hid (HBl2.out.trans (hbl3.mono HBl2.out.size))
    have HB3 := Lib.hid (HB2.out.below hbl3 HB2.out.lt)
    have HSm2 := Lib.hid fun W (h1 : Below w.heap.size w W) (h2 : Below w3.heap.size w3 W) => HSm.out v _ W h1 (hov.later h2)
    have hsz3 : w.heap.size < w3.heap.size := HB3.out.lt
    obtain ⟨kv, dv, us, rfl, s1, s2, -, -⟩ := hov.open_
    obtain ⟨A2, c2, rfl⟩ := s1.form
    obtain ⟨B2, d2, rfl⟩ := s2.form
    unfold V5.val
    dsimp only at HSm2 ⊢
    clear hov s1 s2 hbl3 x0 x1 x2 x3 x4 HSm HPa2
    generalize hnk : (strs o.keys).length = nk2 at *
    generalize hnd : o.kids.length = nd2 at *
    generalize hk0 : o.kind = k2 at *
    generalize hi0 : o.int = i2 at *
    generalize hT0 : (⟨o.text.toArray⟩ : ByteArray) = T2 at *
    clear hnk hnd hk0 hi0 hT0
    have hbz := Lib.hid (Below.refl w3.heap.size w3 |>.alloc (Nat.le_refl _) (.cells #[.int .i64 k2, .int .i64 i2, .string T2, .slice A2 nk2 c2, .slice B2 nd2 d2] 25))
    have hbw := Lib.hid (HBl3.out.trans (hbz.out.mono HBl3.out.size))
    obtain ⟨x0, x1, x2, x3, x4⟩ := b5_cells (v := ⟨.int .i64 k0, .int .i64 i0, .string T0, .slice A nk ck, .slice Bd nd cd⟩) HB3.out
    have hsS : (S.size : Int) ≤ 8192 := by omega
    go_wp2_with fail
    refine (HSm2.out _ hbw.out hbz.out).mono ?_
    rintro e w4 ⟨rfl, hbl4⟩
    rw [eqB_true rfl]
    have hbw4 := Lib.hid (hbw.out.trans (hbl4.mono hbw.out.size))
    clear hbl4
    go_wp2_with fail
    go_ret
    exact ⟨rfl, hbw4.out⟩
set_option maxRecDepth 100000 in
set_option maxHeartbeats 16000000 in
theorem stable_law (S : ByteArray) (w : World) (hT : Tab10 w) (hE : ErrT w) :
    Calls Tryz.prog 4 #[.string S] w fun e w' => e = .returned (.bool true) ∧ Below w.heap.size w w' := by
  have HPs : Hid (Calls Tryz.prog 9 #[] w fun e w' => e = .returned (.bool true) ∧ Below w.heap.size w w') := parses_any w hT hE
  have HT : Hid (∀ W, Below w.heap.size w W → Tab10 W) := fun W h => hT.later h
  clear hT hE
  go_enter Tryz.func4, Tryz.ntmps4
  go_wp2_with fail
  refine HPs.out.mono ?_
  rintro e w1 ⟨rfl, hbl1⟩
  have HBl1 := Lib.hid hbl1
  clear hbl1 HPs
  go_wp2_with fail
  refine (parse_any S w1 (HT.out _ HBl1.out)).mono ?_
  rintro e w2 ⟨hbl2, hr⟩
  have HBl2 := Lib.hid (HBl1.out.trans (hbl2.mono HBl1.out.size))
  clear hbl2
  have HPp : Hid (∀ o, parseO (bys S) = some o → ∃ t, printO o = .ok t) := fun o h => parse_print h
  generalize parseO (bys S) = r at *
  cases r with
  | none =>
    obtain ⟨a, c, hc, rfl⟩ := hr
    have hcb : (c != 0) = true := by simpa using hc
    have hbz := (Below.refl w2.heap.size w2).alloc (Nat.le_refl _) (.cells #[.int .i64 0, .int .i64 0, .string ⟨#[]⟩, .slice none 0 0, .slice none 0 0] 25)
    go_wp2_with fail
    go_ret
    exact ⟨rfl, HBl2.out.trans (hbz.mono HBl2.out.size)⟩
  | some o =>
    obtain ⟨v, hov, rfl⟩ := hr
    obtain ⟨t, ht⟩ := HPp.out o rfl
    obtain ⟨hback, hlen⟩ := print_parse ht
    obtain ⟨T, hT⟩ : ∃ T : ByteArray, T = ⟨t.toArray⟩ := ⟨_, rfl⟩
    have hbT : bys T = t := by rw [hT]; exact int_bys t
    have HPr : Hid (∀ (u : V5) (Q : Nat → Prop) W, Below w.heap.size w W → ObjV Q W u o → Calls Tryz.prog 10 #[u.val] W fun e w' => e = .returned (.tuple #[.string T, .int .i64 0]) ∧ Below W.heap.size W w') := fun u Q W hW hu => by
      have := print_obj Q o u W hu (HT.out W hW)
      rw [ht] at this
      exact this.mono fun e w' ⟨a, b⟩ => ⟨by rw [b, hT], a⟩
    have HPa : Hid (∀ W, Below w.heap.size w W → Calls Tryz.prog 12 #[.string T] W (ParsePost (some o) W)) := fun W hW => by
      have := parse_any T W (HT.out W hW)
      rwa [hbT, hback] at this
    have HSm : Hid (∀ (u v : V5) (P Q : Nat → Prop) W, ObjV P W u o → ObjV Q W v o → Calls Tryz.prog 13 #[u.val, v.val] W fun e w' => e = .returned (.bool true) ∧ Below W.heap.size W w') := fun u v P Q W h1 h2 =>
      (same_any _ _ _ u v _ _ W (Nat.le_refl _) h1 h2).mono fun e w' ⟨a, b⟩ => ⟨by rw [a, eqB_true rfl], b⟩
    have HPr1 := Lib.hid fun W h1 (h2 : Below w2.heap.size w2 W) => HPr.out v _ W h1 (hov.later h2)
    have HSm1 := Lib.hid fun (u : V5) (Q : Nat → Prop) W (h2 : Below w2.heap.size w2 W) (h1 : ObjV Q W u o) => HSm.out v u _ Q W (hov.later h2) h1
    obtain ⟨kv, dv, us, rfl, s1, s2, -, -⟩ := hov.open_
    obtain ⟨A2, c2, rfl⟩ := s1.form
    obtain ⟨B2, d2, rfl⟩ := s2.form
    unfold V5.val at HPr1 ⊢
    dsimp only at HPr1 HSm1 ⊢
    clear hov s1 s2 HPp hback hlen ht hbT hT HSm
    generalize hnk : (strs o.keys).length = nk at *
    generalize hnd : o.kids.length = nd at *
    generalize hk0 : o.kind = k0 at *
    generalize hi0 : o.int = i0 at *
    generalize hT0 : (⟨o.text.toArray⟩ : ByteArray) = T0 at *
    clear hnk hnd hk0 hi0 hT0
    have hba : Below w2.heap.size w2 (w2.alloc (.cells #[.int .i64 k0, .int .i64 i0, .string T0, .slice A2 nk c2, .slice B2 nd d2] 25)) := (Below.refl _ _).alloc (Nat.le_refl _) _
    have HBa := Lib.hid (HBl2.out.trans (hba.mono HBl2.out.size))
    have HBb := Lib.hid hba
    have HB1 := Lib.hid (Blk.new w2 25 #[.int .i64 k0, .int .i64 i0, .string T0, .slice A2 nk c2, .slice B2 nd d2])
    clear hba
    go_wp2_with fail
    refine (HPr1.out _ HBa.out HBb.out).mono ?_
    rintro e w3 ⟨rfl, hbl3⟩
    have HBa3 := Lib.hid (HBa.out.trans (hbl3.mono HBa.out.size))
    have HBb3 := Lib.hid (HBb.out.trans (hbl3.mono HBb.out.size))
    have HB3 := Lib.hid (HB1.out.below hbl3 HB1.out.lt)
    clear hbl3 HB1 HBa HBb HPr1
    go_wp2_with fail
    refine (HPa.out _ HBa3.out).mono ?_
    rintro e w4 ⟨hbl4, v2, hov, rfl⟩
    have HBa4 := Lib.hid (HBa3.out.trans (hbl4.mono HBa3.out.size))
    have HBb4 := Lib.hid (HBb3.out.trans (hbl4.mono HBb3.out.size))
    have HB4 := Lib.hid (HB3.out.below hbl4 HB3.out.lt)
    have hsz4 : w2.heap.size < w4.heap.size := HB4.out.lt
    have HPr2 := Lib.hid fun W h1 (h2 : Below w4.heap.size w4 W) => HPr.out v2 _ W h1 (hov.later h2)
    have HSm2 := Lib.hid fun W (h2 : Below w2.heap.size w2 W) (h1 : Below w4.heap.size w4 W) => HSm1.out v2 _ W h2 (hov.later h1)
    obtain ⟨kv, dv, us, rfl, s1, s2, -, -⟩ := hov.open_
    obtain ⟨A4, c4, rfl⟩ := s1.form
    obtain ⟨B4, d4, rfl⟩ := s2.form
    unfold V5.val at HPr2 HSm2 ⊢
    dsimp only at HPr2 HSm2 ⊢
    clear hov s1 s2 HSm1 HPr HPa hbl4 HB3 HBa3 HBb3
    generalize hnk : (strs o.keys).length = nk9 at *
    generalize hnd : o.kids.length = nd9 at *
    generalize hk0 : o.kind = k9 at *
    generalize hi0 : o.int = i9 at *
    generalize hT0 : (⟨o.text.toArray⟩ : ByteArray) = T9 at *
    clear hnk hnd hk0 hi0 hT0
    have hba : Below w4.heap.size w4 (w4.alloc (.cells #[.int .i64 k9, .int .i64 i9, .string T9, .slice A4 nk9 c4, .slice B4 nd9 d4] 25)) := (Below.refl _ _).alloc (Nat.le_refl _) _
    have HBa5 := Lib.hid (HBa4.out.trans (hba.mono HBa4.out.size))
    have HBb5 := Lib.hid (HBb4.out.trans (hba.mono HBb4.out.size))
    have HBc5 := Lib.hid hba
    have HB5 := Lib.hid (HB4.out.alloc (.cells #[.int .i64 k9, .int .i64 i9, .string T9, .slice A4 nk9 c4, .slice B4 nd9 d4] 25))
    have HBn5 := Lib.hid (Blk.new w4 25 #[.int .i64 k9, .int .i64 i9, .string T9, .slice A4 nk9 c4, .slice B4 nd9 d4])
    clear hba
    go_wp2_with fail
    refine (HPr2.out _ HBa5.out HBc5.out).mono ?_
    rintro e w6 ⟨rfl, hbl6⟩
    have HBa6 := Lib.hid (HBa5.out.trans (hbl6.mono HBa5.out.size))
    have HBb6 := Lib.hid (HBb5.out.trans (hbl6.mono HBb5.out.size))
    have HBc6 := Lib.hid (HBc5.out.trans (hbl6.mono HBc5.out.size))
    obtain ⟨x0, x1, x2, x3, x4⟩ := b5_cells (v := ⟨.int .i64 k0, .int .i64 i0, .string T0, .slice A2 nk c2, .slice B2 nd d2⟩) (HB5.out.below hbl6 HB5.out.lt)
    obtain ⟨y0, y1, y2, y3, y4⟩ := b5_cells (v := ⟨.int .i64 k9, .int .i64 i9, .string T9, .slice A4 nk9 c4, .slice B4 nd9 d4⟩) (HBn5.out.below hbl6 HBn5.out.lt)
    have hsz6 : w4.heap.size < w6.heap.size := by have := hbl6.size; simp at this; omega
    clear hbl6 HPr2
    go_wp2_with fail
    refine (HSm2.out _ HBb6.out HBc6.out).mono ?_
    rintro e w7 ⟨rfl, hbl7⟩
    have HBa7 := Lib.hid (HBa6.out.trans (hbl7.mono HBa6.out.size))
    clear hbl7 x0 x1 x2 x3 x4 y0 y1 y2 y3 y4
    go_wp2_with fail
    go_ret
    exact ⟨rfl, HBa7.out⟩
end Go.Proofs.YthbdhijkdldmoaaGreatDoor
