/- The walk of because: facts that suffice. -/
import Derived.Test.YtonmpealebggoaaGreatDoorPrpDel
import Derived.IntWalk
namespace Go.Proofs.YtonmpealebggoaaGreatDoor
open Go.RowKit Pr
def fnames (l : List Ft) : List Value := l.map fun x => Value.string (Bs x.1)
theorem fcells_append (a b : List Ft) : fcells (a ++ b) = fcells a ++ fcells b := by unfold fcells; rw [List.flatMap_append]
theorem ftsok_size {l : List Ft} (h : FtsOk l) : ∀ x ∈ l, x.1.length ≤ maxLen := fun x hx => Nat.le_trans (plain_len (h.2.1 x hx).nm).2 (by decide)
theorem own_fts {w : World} {base : Nat} {v : Value} {l : List Ft} (h : w.ownsRow base 30 2 v l.length (fcells l)) (ho : FtsOk l) : FtsM (fun b => some b = v.ownBlock ∧ base ≤ b) w v l := ⟨SlM.of_own h, ftsok_size ho⟩
theorem FrS.grownB {R : Nat} {S : Nat → Prop} {a w w' : World} {r : Option Nat} (h : FrS R S a w) (hg : w.grownBy w' r) (hR : R ≤ w.heap.size) (hv : ∀ k, r = some k → R ≤ k ∨ S k) : FrS R S a w' :=
  h.trans ⟨hg.os, hg.tape, hg.output, hg.size, fun k hk hs => hg.block k (by omega) fun e => by
    rcases hv k e.symm with h1 | h1
    · omega
    · exact hs h1⟩
theorem eSt : ElemT Tryz.prog 56 9 (.string ⟨#[]⟩) 16 := ElemT.mk_ Tryz.underlying56 (by kernel_rfl) rfl
def lenV (v : Value) : Nat := match v with | .slice _ n _ => n | _ => 0
theorem del_cells (dn : List Ft) (x : Ft) (t : List Ft) : (fcells (dn ++ x :: t)).take (dn.length * 2) ++ (fcells (dn ++ x :: t)).drop ((dn.length + 1) * 2) = fcells (dn ++ t) := by
  rw [fcells_append, fcells_append]
  have e1 : (fcells dn).length = dn.length * 2 := fcells_len dn
  have e2 : fcells (x :: t) = fcell x ++ fcells t := rfl
  rw [List.take_left' e1, e2, show (dn.length + 1) * 2 = dn.length * 2 + 2 by omega, ← List.drop_drop, List.drop_left' e1]
  rfl
set_option maxRecDepth 100000 in
set_option maxHeartbeats 16000000 in
theorem because_any (c : Cd) (u : V5) (l : List Ft) (fv : Value) (P Q : Nat → Prop) (w : World) (hc : VC 12 c) (hu : CdV P w u c) (hf : FtsM Q w fv l) (ho : FtsOk l) :
    Calls Tryz.prog 40 #[u.val, fv] w fun e w' => ∃ v', e = .returned v' ∧ w'.ownsRow w.heap.size 9 1 v' (becF 12 c [] l).length (fnames (becF 12 c [] l)) ∧ Below w.heap.size w w' := by
  have hR : becF 12 c [] l = becF 12 c [] l := rfl
  generalize hRR : becF 12 c [] l = R at *
  have HR := Lib.hid hRR
  have HO := Lib.hid ho
  have HCl := Lib.hid (fun W (hW : Below w.heap.size w W) => clone_any l fv Q W (hf.later hW) (Nat.le_trans ho.1 (by decide)))
  have HTr := Lib.hid (fun (m : List Ft) (mv : Value) (P' : Nat → Prop) W (hW : Below w.heap.size w W) (hm : FtsM P' W mv m) (hmo : FtsOk m) => truth_all 12 c m u mv P P' W hc (hu.later hW) hm hmo)
  obtain ⟨fA, fc, rfl⟩ := hf.1.form
  obtain ⟨tv, dv, vs, rfl, ht, hd, -⟩ := hu.open_
  obtain ⟨A1, c1, rfl⟩ := ht.form
  obtain ⟨A2, c2, rfl⟩ := hd.form
  clear hu hf ht hd hc ho hRR hR
  dsimp only [V5.val] at *
  have HB0 := Lib.hid ((Below.refl w.heap.size w).alloc (Nat.le_refl _) (.cells #[.int .i64 c.kind, .slice A1 c.terms.length c1, .int .i64 c.cmp, .int .i64 c.than, .slice A2 c.kids.length c2] 25))
  have HK0 := Lib.hid (Blk.new w 25 #[.int .i64 c.kind, .slice A1 c.terms.length c1, .int .i64 c.cmp, .int .i64 c.than, .slice A2 c.kids.length c2])
  generalize c.terms.length = n1 at *
  generalize c.kids.length = n2 at *
  generalize c.kind = k0 at *
  generalize c.cmp = k2 at *
  generalize c.than = k3 at *
  have HCl1 := Lib.hid (HCl.out _ HB0.out)
  go_enter Tryz.func40, Tryz.ntmps40
  go_wp2_with fail
  have hsz0 : (w.alloc (.cells #[.int .i64 k0, .slice A1 n1 c1, .int .i64 k2, .int .i64 k3, .slice A2 n2 c2] 25)).heap.size = w.heap.size + 1 := by simp
  generalize w.alloc (.cells #[.int .i64 k0, .slice A1 n1 c1, .int .i64 k2, .int .i64 k3, .slice A2 n2 c2] 25) = w1 at *
  refine HCl1.out.mono ?_
  rintro e w2 ⟨v2, rfl, hown, hb2⟩
  have HB2 := Lib.hid (HB0.out.trans (hb2.mono HB0.out.size))
  have HK2 := Lib.hid (HK0.out.below hb2 HK0.out.lt)
  have HO2 := Lib.hid (own_base hown (by omega : w.heap.size + 1 ≤ w1.heap.size))
  obtain ⟨B2, d2, rfl⟩ := own_form hown
  clear hown hb2 HCl1 HB0 HK0
  go_wp2_with fail
  go_loopw [1, 5, 6] (fun v1 v5 _ wr => True ∧ ∃ (dn td : List Ft) (A : Option Addr) (cp N : Nat), v1 = .slice A N cp ∧ v5 = .int .i64 (dn.length : Int) ∧ N = (dn ++ td).length ∧ wr.ownsRow (w.heap.size + 1) 30 2 (.slice A N cp) N (fcells (dn ++ td)) ∧
      becF 12 c dn td = R ∧ (dn ++ td).Sublist l ∧ Below w.heap.size w wr ∧ Blk wr w.heap.size 25 #[.int .i64 k0, .slice A1 n1 c1, .int .i64 k2, .int .i64 k3, .slice A2 n2 c2] ∧ w.heap.size + 1 ≤ wr.heap.size) (fun v1 v5 _ _ => lenV v1 - (intOf v5).toNat)
  case atStart => exact ⟨trivial, [], l, B2, d2, l.length, rfl, rfl, rfl, HO2.out, HR.out, List.Sublist.refl _, HB2.out, HK2.out, by have := HK2.out.lt; omega⟩
  case round =>
    obtain ⟨-, dn, td, A, cp, N, rfl, rfl, hN, hown, hbec, hsub, hbl, hbk, hsz⟩ := hrel
    have HOw := Lib.hid hown
    have HBe := Lib.hid hbec
    have HSu := Lib.hid hsub
    have HBl := Lib.hid hbl
    have HBk := Lib.hid hbk
    have hcap := (SlM.of_own hown).caps
    clear hown hbec hsub hbk HO2 HK2 HB2 HR
    cases td with
    | cons x t =>
      have hNN : N = dn.length + t.length + 1 := by rw [hN]; simp; omega
      have HN := Lib.hid hN
      clear hN
      have t0 : decide ((dn.length : Int) < (N : Int)) = true := by simp; omega
      have hoL : FtsOk (dn ++ x :: t) := HO.out.sub HSu.out
      have HoL := Lib.hid hoL
      have hsub2 : (dn ++ t).Sublist (dn ++ x :: t) := (List.Sublist.refl dn).append (List.sublist_cons_self x t)
      have HoT := Lib.hid (hoL.sub hsub2)
      have HS2 := Lib.hid (hsub2.trans HSu.out)
      have HCr := Lib.hid (clone_any (dn ++ x :: t) (.slice A N cp) _ wr (own_fts (by rw [← HN.out]; exact HOw.out) hoL) (Nat.le_trans hoL.1 (by decide)))
      rw [← HN.out] at HCr
      have hdn : dn.length < N := by omega
      have HNN := Lib.hid hNN
      obtain ⟨N2, hN2⟩ : ∃ N2, N2 = (dn ++ t).length := ⟨_, rfl⟩
      have hN2' : N2 = dn.length + t.length := by rw [hN2]; simp
      have HN2 := Lib.hid hN2
      have HN2' := Lib.hid hN2'
      have hn1 : N - 1 = N2 := by omega
      have Hn1 := Lib.hid hn1
      have hN0 : 0 < N := by omega
      clear hN2 hN2' hNN hn1
      have hBeq : Hid (becF 12 c dn (x :: t) = if truthF 12 (dn ++ t) c = 0 then becF 12 c dn t else becF 12 c (dn ++ [x]) t) := rfl
      clear hsub2 hoL
      go_wp2_with fail
      refine HCr.out.mono ?_
      rintro e w3 ⟨v3, rfl, hown3, hb3⟩
      have hsz3 := hb3.size
      have HB3 := Lib.hid (hbl.trans (hb3.mono hbl.size))
      have HB3r := Lib.hid hb3
      obtain ⟨g, cp3, rfl, hg, -⟩ := own_cells hown3 hN0
      have HDl := Lib.hid (delF wr.heap.size g N cp3 dn.length (fcells (dn ++ x :: t)) w3 hown3 hdn (fcells_one _))
      have hDc := del_cells dn x t
      rw [hDc] at HDl
      rw [Hn1.out] at HDl
      have hi64 : IntKind.i64.wrap ((dn.length : Int) + 1) = (dn.length : Int) + 1 := IntWalk.i64_in _ (by have := HoL.out.1; rw [← HN.out] at this; omega)
      clear hown3 hb3 hDc HCr
      go_wp2_with fail
      refine HDl.out.mono ?_
      rintro e w4 ⟨rfl, hown4, hf4⟩
      have hsz4 := hf4.size
      have HB4r := Lib.hid (HB3r.out.trans (hf4.below (B := wr.heap.size) (by omega) (fun k e => by omega)))
      have HB4 := Lib.hid (HBl.out.trans (HB4r.out.mono HBl.out.size))
      have HO4 := Lib.hid (own_base hown4 (show w.heap.size + 1 ≤ wr.heap.size by omega))
      have HTr4 := Lib.hid (HTr.out (dn ++ t) _ _ w4 HB4.out (own_fts (by rw [← HN2.out]; exact hown4) HoT.out) HoT.out)

      have hk4 := HBk.out.below HB4r.out HBk.out.lt
      have HK4 := Lib.hid hk4
      obtain ⟨y0, y1, y2, y3, y4⟩ := b5_cells hk4
      have yl := hk4.lt
      clear hown4 hf4 HDl hk4
      generalize truthF 12 (dn ++ t) c = tv at *
      by_cases htv : tv = 0
      · have u0 : (tv == 0) = true := by rw [beq_iff_eq]; exact htv
        have HBn := Lib.hid (show becF 12 c dn t = R by rw [← HBe.out, hBeq.out, if_pos htv])
        clear htv
        go_wp2_with fail
        refine HTr4.out.mono ?_
        rintro e w5 ⟨rfl, hb5⟩
        have HB5 := Lib.hid (HB4.out.trans (hb5.mono HB4.out.size))
        have HO5 := Lib.hid (own_below HO4.out hb5)
        have HK5 := Lib.hid (HK4.out.below hb5 HK4.out.lt)
        have hsz5 := hb5.size
        clear hb5
        go_wp2_with fail
        go_roundw
        case rel => exact ⟨trivial, dn, t, _, _, N2, rfl, rfl, HN2.out, HO5.out, HBn.out, HS2.out, HB5.out, HK5.out, by omega⟩
        case measure => have e1 := HNN.out; have e2 := HN2'.out; simp [lenV, intOf]; omega
      · have u0 : (tv == 0) = false := by rw [beq_eq_false_iff_ne]; exact htv
        have HBn := Lib.hid (show becF 12 c (dn ++ [x]) t = R by rw [← HBe.out, hBeq.out, if_neg htv])
        clear htv
        go_wp2_with fail
        refine HTr4.out.mono ?_
        rintro e w5 ⟨rfl, hb5⟩
        have HB5 := Lib.hid (HB4.out.trans (hb5.mono HB4.out.size))
        have HO5 : Hid (w5.ownsRow (w.heap.size + 1) 30 2 (.slice A N cp) N (fcells (dn ++ x :: t))) := own_below (own_below HOw.out HB4r.out) (hb5)
        have HK5 := Lib.hid (HK4.out.below hb5 HK4.out.lt)
        have hsz5 := hb5.size
        have hass : (dn ++ [x]) ++ t = dn ++ x :: t := by simp
        have hdl : (dn ++ [x]).length = dn.length + 1 := by simp
        clear hb5
        go_wp2_with fail
        go_roundw
        case rel => exact ⟨trivial, dn ++ [x], t, A, cp, N, rfl, by rw [hdl]; go_num, by rw [hass]; exact HN.out, by rw [hass]; exact HO5.out, HBn.out, by rw [hass]; exact HSu.out, HB5.out, HK5.out, by omega⟩
        case measure => have e1 := HNN.out; have e2 := HN2'.out; simp [lenV, intOf]; omega
    | nil =>
      have hNN : N = dn.length := by rw [hN]; simp
      have t0 : decide ((dn.length : Int) < (N : Int)) = false := by simp; omega
      have t1 : ¬ dn.length < N := by omega
      have HRd : Hid (R = dn) := by rw [← HBe.out]; rfl
      have hdn : dn ++ [] = dn := by simp
      rw [hdn] at HOw HSu
      have HoD := Lib.hid (HO.out.sub HSu.out)
      have hN' : dn.length = N := hNN.symm
      have HN := Lib.hid hN'
      have HFt : Hid (FtsM (fun b => some b = (Value.slice A N cp).ownBlock ∧ w.heap.size + 1 ≤ b) wr (.slice A N cp) dn) := own_fts (by rw [hN']; exact HOw.out) HoD.out
      have hN64 : N ≤ 64 := by rw [← hN']; exact HoD.out.1
      clear hNN hN hN' HBe HSu HBk HOw hdn
      go_wp2_with fail
      generalize wr = wm at *
      go_loopw [7, 9, 31] (fun v7 _ v31 wz => True ∧ ∃ (i : Nat) (A7 : Option Addr) (c7 : Nat), i ≤ N ∧ v31 = .int .i64 i ∧ v7 = .slice A7 i c7 ∧ wz.ownsRow wm.heap.size 9 1 (.slice A7 i c7) i (fnames (dn.take i)) ∧ Below wm.heap.size wm wz) (fun _ _ v31 _ => N - (intOf v31).toNat)
      case atStart => exact ⟨trivial, 0, none, 0, Nat.zero_le _, rfl, rfl, ⟨rfl, .inl ⟨rfl, rfl⟩⟩, Below.refl _ _⟩
      case round =>
        obtain ⟨-, i, A7, c7, hi, rfl, rfl, hown, hbz⟩ := hrel
        have HOz := Lib.hid hown
        have HBz := Lib.hid hbz
        have hszz := hbz.size
        by_cases hlt : i < N
        · have t0 : decide ((i : Int) < (N : Int)) = true := by simp; omega
          obtain ⟨b, off, rfl, -, hbb, hcell⟩ := FtsM.at_ (n := N) HFt.out (by rw [HN.out]; omega)
          obtain ⟨d0, d1⟩ := hcell i (by rw [HN.out]; exact hlt)
          have d0 : wr.cell? ⟨b, off + i * 2, none⟩ = some (.string (Bs (dn.getD i ft0).1)) := (hbz.cell (p := ⟨b, off + i * 2, none⟩) hbb).trans d0
          replace d1 := (hbz.cell (p := ⟨b, off + i * 2 + 1, none⟩) hbb).trans d1
          have hbb2 := Nat.lt_of_lt_of_le hbb hszz
          have HTk : Hid (fnames (dn.take i) ++ [.string (Bs (dn.getD i ft0).1)] = fnames (dn.take (i + 1))) := by
            have h2 : dn.take (i + 1) = dn.take i ++ [dn.getD i ft0] := by rw [List.take_add_one, List.getD_eq_getElem?_getD, List.getElem?_eq_getElem (by rw [HN.out]; exact hlt)]; rfl
            rw [h2]
            simp [Hid, fnames]
          clear hcell hown
          generalize (dn.getD i ft0).2 = xv at *
          generalize Bs (dn.getD i ft0).1 = NM at *
          have HOb := Lib.hid (own_below (own_below HOz.out ((Below.refl wr.heap.size wr).alloc (Nat.le_refl _) (.cells #[.string NM, .int .i64 xv] 30))) ((Below.refl _ _).alloc (Nat.le_refl _) (.cells #[.string NM] 9)))
          have hown7 : Hid (∀ k, (Value.slice A7 i c7).ownBlock = some k → wm.heap.size ≤ k) := fun k hk => (own_lt HOz.out k hk).1
          have hsa : (wr.alloc (.cells #[.string NM, .int .i64 xv] 30)).heap.size = wr.heap.size + 1 := by simp
          go_wp2_with (at_builtin; go_must (refine wpList_push eSt rfl (.tmp 35) (.tmp 38) rfl wm.heap.size (.slice A7 i c7) i _ rfl HOb.out ⟨wr.heap.size + 1, 0, none⟩ 1 (.string NM) rfl (by have h := (Blk.new (wr.alloc (.cells #[.string NM, .int .i64 xv] 30)) 9 #[.string NM]).cell 0; rw [hsa] at h; exact h) rfl (by omega) (by omega) (by simp; omega) ?_); go_must (intro v' w11 hown11 hgr11 hk11; have HO11 := Lib.hid hown11; have HGr11 := Lib.hid hgr11; obtain ⟨A11, c11, rfl⟩ := own_form hown11; clear hown11 hgr11 hk11))
          have hb11 : Below wm.heap.size wm w11 := by
            have h1 : FrS wm.heap.size (fun _ => False) wm wr := FrS.of_below hbz (Nat.le_refl _)
            have h2 := (h1.alloc hszz (.cells #[.string NM, .int .i64 xv] 30)).alloc (by simp; omega) (.cells #[.string NM] 9)
            exact (h2.grownB HGr11.out (by simp; omega) (fun k hk => .inl (hown7.out k hk))).below (Nat.le_refl _) (fun k e => e.elim)
          have HB11 := Lib.hid hb11
          clear hb11
          go_wp2_with fail
          go_roundw
          case rel => exact ⟨trivial, i + 1, A11, c11, by omega, by go_num, rfl, by rw [← HTk.out]; exact HO11.out, HB11.out⟩
          case measure => simp [intOf]; omega
        · have t0 : decide ((i : Int) < (N : Int)) = false := by simp; omega
          obtain rfl : i = N := by omega
          have HOf : Hid (wr.ownsRow wm.heap.size 9 1 (.slice A7 i c7) dn.length (fnames dn)) := by
            have := HOz.out
            rw [← HN.out, List.take_length] at this
            rw [← HN.out]; exact this
          clear hown
          go_wp2_with fail
          go_ret
          refine ⟨_, rfl, ?_, HBl.out.trans (HBz.out.mono HBl.out.size)⟩
          rw [HRd.out]
          exact own_base HOf.out HBl.out.size
end Go.Proofs.YtonmpealebggoaaGreatDoor
