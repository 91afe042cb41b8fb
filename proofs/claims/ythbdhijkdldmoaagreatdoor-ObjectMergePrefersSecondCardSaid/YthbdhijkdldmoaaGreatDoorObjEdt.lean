/- The walk of edit. -/
import Derived.Test.YthbdhijkdldmoaaGreatDoorObjEd
import Derived.Deep.RegionHeld3
import Derived.Deep.DeepCutAuto
import Derived.Deep.CutBlock
namespace Go.Proofs.YthbdhijkdldmoaaGreatDoor
open Go.RowKit Tk Ob
/-- What edit does on the rest of a path. -/
def EditIH (fc : Nat) (caps : Array Value) (last : Ox → Int → Bool → Tk.Src → Except Int Ox) (X : Nat → Prop) (Inv : World → Prop) (path : List Tk.Src) : Prop :=
  ∀ (o : Ox) (v : V5) (b off : Nat) (cs : Array Value) (t : TypeId) (F Q : Nat → Prop) (pv : Value) (W : World), path ≠ [] → (∀ s ∈ path, s.length ≤ 140737488355328) → Inv W → Ed W b off cs t v o F → (∀ x, X x → ¬ F x ∧ x ≠ b) → Ad o → Sl W Q pv (strs path) → ErrT W →
      Calls Tryz.prog 33 #[.pointer (some ⟨b, off, none⟩), pv, .func (.func fc) #[] caps] W (EdPost (editO last path o) W b off cs t F X)
set_option maxRecDepth 100000 in
set_option maxHeartbeats 16000000 in
theorem edit_step (fc : Nat) (caps : Array Value) (last : Ox → Int → Bool → Tk.Src → Except Int Ox) (X : Nat → Prop) (Inv : World → Prop) (heg : ∀ args w, (callFunc fc args).run Tryz.prog w = .ok (.enter fc args) w) (hInv : ∀ W W', Inv W → Below W.heap.size W W' → Inv W')
    (hlast : ∀ (W : World) (b off : Nat) (cs : Array Value) (t : TypeId) (v : V5) (o : Ox) (F : Nat → Prop) (s : Tk.Src), Inv W → Ed W b off cs t v o F → (∀ x, X x → ¬ F x ∧ x ≠ b) → Ad o → (stepO o s).2.2 = 0 →
      Calls Tryz.prog fc (#[.pointer (some ⟨b, off, none⟩), .int .i64 (stepO o s).1, .bool (stepO o s).2.1, .string ⟨s.toArray⟩] ++ caps) W (EdPost (last o (stepO o s).1 (stepO o s).2.1 s) W b off cs t F X))
    (s : Tk.Src) (r : List Tk.Src) (hih : EditIH fc caps last X Inv r) (o : Ox) (v : V5) (b off : Nat) (cs : Array Value) (t : TypeId) (F Q : Nat → Prop) (pv : Value) (w : World) (hsz : ∀ s' ∈ s :: r, s'.length ≤ 140737488355328) (hi : Inv w) (hed : Ed w b off cs t v o F) (hX : ∀ x, X x → ¬ F x ∧ x ≠ b) (had : Ad o) (hp : Sl w Q pv (strs (s :: r))) (hE : ErrT w) :
    Calls Tryz.prog 33 #[.pointer (some ⟨b, off, none⟩), pv, .func (.func fc) #[] caps] w (EdPost (editO last (s :: r) o) w b off cs t F X) := by
    have HI : Hid (∀ W, Below w.heap.size w W → Inv W) := fun W hW => hInv w W hi hW
    have HEd : Hid (∀ W, Below w.heap.size w W → Ed W b off cs t v o F) := fun W hW => hed.later hW
    have HAd := Lib.hid had
    have HX := Lib.hid hX
    have HL : Hid (∀ W, Below w.heap.size w W → (stepO o s).2.2 = 0 → Calls Tryz.prog fc (#[.pointer (some ⟨b, off, none⟩), .int .i64 (stepO o s).1, .bool (stepO o s).2.1, .string ⟨s.toArray⟩] ++ caps) W (EdPost (last o (stepO o s).1 (stepO o s).2.1 s) W b off cs t F X)) :=
      fun W hW h0 => hlast W b off cs t v o F s (HI.out W hW) (HEd.out W hW) hX had h0
    have HIH : Hid (∀ (k : Ox) (u : V5) (b' off' : Nat) (cs' : Array Value) (t' : TypeId) (F' : Nat → Prop) (pv' : Value) (W : World), r ≠ [] → Below w.heap.size w W → Ed W b' off' cs' t' u k F' → (∀ x, X x → ¬ F' x ∧ x ≠ b') → Ad k → Sl W Q pv' (strs r) →
        Calls Tryz.prog 33 #[.pointer (some ⟨b', off', none⟩), pv', .func (.func fc) #[] caps] W (EdPost (editO last r k) W b' off' cs' t' F' X)) := fun k u b' off' cs' t' F' pv' W hr hW he hx hk hp' =>
      hih k u b' off' cs' t' F' Q pv' W hr (fun s hs => hsz s (List.mem_cons_of_mem _ hs)) (HI.out W hW) he hx hk hp' (hE.later hW)
    have HSt : Hid (∀ W, Below w.heap.size w W → Calls Tryz.prog 32 #[v.val, .string ⟨s.toArray⟩] W (StepPost (stepO o s) W)) := fun W hW => by
      obtain ⟨hk256, hd256, hso⟩ := had.small
      exact step_any _ o v s W (HEd.out W hW).own.objV hk256 hd256 hso (hsz s List.mem_cons_self) (hE.later hW)
    have HR : Hid (editO last (s :: r) o = if (stepO o s).2.2 ≠ 0 then .error (stepO o s).2.2
      else if r = [] then last o (stepO o s).1 (stepO o s).2.1 s
      else if (stepO o s).2.1 = false then .error 8
      else match editO last r (o.kids.getD (stepO o s).1.toNat Ox.zero) with
        | .error e => .error e
        | .ok k => .ok (o.withKids o.keys (o.kids.set (stepO o s).1.toNat k))) := rfl
    have HFd : Hid ((stepO o s).2.1 = true → ∃ i : Nat, (stepO o s).1 = (i : Int) ∧ i < o.kids.length) := step_found had
    obtain ⟨x0, x1, x2, x3, x4⟩ := hed.cells
    have hlen : (strs (s :: r)).length = r.length + 1 := by simp [strs]
    obtain ⟨Pa, pc, rfl⟩ := hp.form
    have hpc := hp.cap_le
    obtain ⟨pb, po, rfl, hpb, hpcell⟩ := hp.plainA (by rw [hlen]; omega)
    have hps := hpcell 0 (.string ⟨s.toArray⟩) rfl
    rw [Nat.add_zero] at hps
    have HP := Lib.hid hp
    rw [hlen] at HP hpc ⊢
    unfold maxLen at hpc
    unfold V5.val at HSt
    generalize editO last (s :: r) o = R at *
    obtain ⟨kv, dv, us, Fs, rfl, hP⟩ := hed.own.opn
    obtain ⟨Ak, ck, rfl⟩ := own_form hP.hk
    obtain ⟨Ad, cd, rfl⟩ := own_form hP.hd
    dsimp only at x0 x1 x2 x3 x4 HSt
    have HO := Lib.hid hP
    have HE0 := Lib.hid hed
    clear hed hp hpcell hE hi hInv hlast hP had hih hX hsz hlen
    have hbl := HE0.out.blk.lt
    have HKp : Hid (∀ w', Below w.heap.size w w' → (w'.cell? ⟨b, off, none⟩ = some (.int .i64 o.kind) ∧ w'.cell? ⟨b, off + 1, none⟩ = some (.int .i64 o.int) ∧ w'.cell? ⟨b, off + 2, none⟩ = some (.string ⟨o.text.toArray⟩) ∧ w'.cell? ⟨b, off + 3, none⟩ = some (.slice Ak o.keys.length ck) ∧ w'.cell? ⟨b, off + 4, none⟩ = some (.slice Ad o.kids.length cd) ∧ w'.cell? ⟨pb, po, none⟩ = some (.string ⟨s.toArray⟩))) := fun w' hb => ⟨(hb.cell (p := ⟨b, off, none⟩) hbl).trans x0, (hb.cell (p := ⟨b, off + 1, none⟩) hbl).trans x1, (hb.cell (p := ⟨b, off + 2, none⟩) hbl).trans x2, (hb.cell (p := ⟨b, off + 3, none⟩) hbl).trans x3, (hb.cell (p := ⟨b, off + 4, none⟩) hbl).trans x4, (hb.cell (p := ⟨pb, po, none⟩) hpb).trans hps⟩
    go_enter Tryz.func33, Tryz.ntmps33
    go_wp2_with fail
    have hdr := (Below.refl w.heap.size w).drew
    go_region_held3 (fun w' => (w'.cell? ⟨b, off, none⟩ = some (.int .i64 o.kind) ∧ w'.cell? ⟨b, off + 1, none⟩ = some (.int .i64 o.int) ∧ w'.cell? ⟨b, off + 2, none⟩ = some (.string ⟨o.text.toArray⟩) ∧ w'.cell? ⟨b, off + 3, none⟩ = some (.slice Ak o.keys.length ck) ∧ w'.cell? ⟨b, off + 4, none⟩ = some (.slice Ad o.kids.length cd) ∧ w'.cell? ⟨pb, po, none⟩ = some (.string ⟨s.toArray⟩)))
      (first | exact HKp.out _ (by assumption) | exact HKp.out _ (Below.refl _ _).drew)
      (first | (go_at_call 32; refine (HSt.out _ (Below.refl _ _).drew).mono ?_; rintro e w1 ⟨rfl, hb1⟩; have hbl1 := (Below.refl w.heap.size w).drew.trans hb1))
    have HBl1 := Lib.hid hbl1
    have hps1 := (hbl1.cell (p := ⟨pb, po, none⟩) hpb).trans hps
    have hxb1 := (hbl1.cell (p := ⟨b, off + 4, none⟩) hbl).trans x4
    have hsz1 := hbl1.size
    clear hdr hb1 hbl1 x0 x1 x2 x3 x4 HSt HKp hps
    generalize stepO o s = st at *
    obtain ⟨a, fb, c⟩ := st
    dsimp only at HR HL HFd ⊢
    by_cases hc : c = 0
    case neg =>
      have hcb : (c != 0) = true := by simpa using hc
      have hr : Hid (R = .error c) := by have := HR.out; rw [if_pos hc] at this; exact this
      go_wp2_with fail
      go_ret
      rw [hr.out]
      exact ⟨FrS.of_below HBl1.out (Nat.le_refl _), rfl⟩
    subst hc
    have hcb : ((0 : Int) != 0) = false := rfl
    cases r with
    | nil =>
      have HR2 : Hid (R = last o a fb s) := by have := HR.out; rw [if_neg (by simp), if_pos rfl] at this; exact this
      have HL2 := Lib.hid (HL.out w1 HBl1.out rfl)
      have hl1 : (([] : List Tk.Src).length + 1) = 1 := rfl
      clear HR HL HIH
      go_wp2_with fail
      refine HL2.out.mono ?_
      rintro e w2 hp
      have hp' := hp.below HBl1.out
      rw [← HR2.out] at hp'
      obtain ⟨c', rfl⟩ : ∃ c', e = .returned (.int .i64 c') := by
        have h2 := hp.2
        split at h2
        · exact ⟨_, h2⟩
        · exact ⟨_, h2.1⟩
      have HP' := Lib.hid hp'
      clear hp hp'
      go_wp2_with fail
      go_ret
      exact HP'.out
    | cons s2 r2 =>
      have hr2 : (s2 :: r2).length = r2.length + 1 := rfl
      cases fb with
      | false =>
        have hr : Hid (R = .error 8) := by have := HR.out; rw [if_neg (by simp), if_neg (by simp), if_pos rfl] at this; exact this
        go_wp2_with fail
        go_ret
        rw [hr.out]
        exact ⟨FrS.of_below HBl1.out (Nat.le_refl _), rfl⟩
      | true =>
        obtain ⟨i, rfl, hik⟩ := HFd.out rfl
        have hiv : i < us.length := by rw [HO.out.hl]; exact hik
        obtain ⟨g, cap, cur, ev, hnc, hcm, hFg, hgl, hEk⟩ := HO.out.kid hik hiv
        injection ev with e1 _ e2
        subst e1; subst e2
        have HR2 : Hid (R = upR o i (editO last (s2 :: r2) (o.kids[i]'hik))) := by
          have := HR.out
          rw [if_neg (by simp), if_neg (by simp), if_neg (by simp)] at this
          simp only [Int.toNat_natCast] at this
          rw [List.getD_eq_getElem?_getD, List.getElem?_eq_getElem hik, Option.getD_some] at this
          exact this
        have hXk : ∀ x, X x → ¬ Fs i x ∧ x ≠ g := fun x hx => ⟨fun h => (HX.out x hx).1 (HO.out.ff i x hik h), fun e => (HX.out x hx).1 (e ▸ hFg)⟩
        have hEk1 := hEk.later HBl1.out
        have HIH2 : Hid (∀ W, Below w.heap.size w W → Calls Tryz.prog 33 #[.pointer (some ⟨g, i * 5, none⟩), .slice (some ⟨pb, po + 1, none⟩) (r2.length + 1) (pc - 1), .func (.func fc) #[] caps] W (EdPost (editO last (s2 :: r2) (o.kids[i]'hik)) W g (i * 5) cur 25 (Fs i) X)) := fun W hW =>
          HIH.out (o.kids[i]'hik) us[i] g (i * 5) cur 25 (Fs i) _ W (by simp) hW (hEk.later hW) hXk (HAd.out.kid _ (List.getElem_mem hik)) ((Sl.tail HP.out).later hW)
        have HEnd : Hid (∀ (W : World) e w2, Below w.heap.size w W → EdPost (editO last (s2 :: r2) (o.kids[i]'hik)) W g (i * 5) cur 25 (Fs i) X e w2 → EdPost R w b off cs t F X e w2) := fun W e w2 hW hp => by
          rw [HR2.out]
          exact EdPost.up HE0.out HO.out hik hEk.blk HX.out (hp.below hW)
        clear HR HL HIH HR2 hXk hEk hEk1 hFg hiv
        unfold maxLen at hcm
        generalize editO last (s2 :: r2) (o.kids[i]'hik) = R2 at *
        generalize o.kids.length = n at *
        have hi0 : (0 : Int) ≤ (i : Int) := by omega
        have hin : (i : Int) < (n : Int) := by omega
        have hpc2 : ¬ (pc = 1) := by omega
        have hq1 : (1 : Int) ≤ (r2.length : Int) + 1 + 1 := by omega
        have hq2 : (r2.length : Int) + 1 + 1 ≤ (pc : Int) := by omega
        go_upto_region 8 with (fail)
        go_still_tail 9, (by kernel_rfl)
        change wpList _ _ _ _ _ w1.drew
        go_wp2_with fail
        refine (HIH2.out _ HBl1.out.drew).mono ?_
        rintro e w2 hp
        have hp' := HEnd.out _ e w2 HBl1.out.drew hp
        obtain ⟨c', rfl⟩ : ∃ c', e = .returned (.int .i64 c') := by
          have h2 := hp.2
          split at h2
          · exact ⟨_, h2⟩
          · exact ⟨_, h2.1⟩
        have HP' := Lib.hid hp'
        clear hp hp' HEnd HIH2
        go_wp2_with fail
        go_ret
        exact HP'.out
theorem edit_any (fc : Nat) (caps : Array Value) (last : Ox → Int → Bool → Tk.Src → Except Int Ox) (X : Nat → Prop) (Inv : World → Prop) (heg : ∀ args w, (callFunc fc args).run Tryz.prog w = .ok (.enter fc args) w) (hInv : ∀ W W', Inv W → Below W.heap.size W W' → Inv W')
    (hlast : ∀ (W : World) (b off : Nat) (cs : Array Value) (t : TypeId) (v : V5) (o : Ox) (F : Nat → Prop) (s : Tk.Src), Inv W → Ed W b off cs t v o F → (∀ x, X x → ¬ F x ∧ x ≠ b) → Ad o → (stepO o s).2.2 = 0 →
      Calls Tryz.prog fc (#[.pointer (some ⟨b, off, none⟩), .int .i64 (stepO o s).1, .bool (stepO o s).2.1, .string ⟨s.toArray⟩] ++ caps) W (EdPost (last o (stepO o s).1 (stepO o s).2.1 s) W b off cs t F X)) :
    ∀ path, EditIH fc caps last X Inv path
  | [] => fun _ _ _ _ _ _ _ _ _ _ h => absurd rfl h
  | s :: r => fun o v b off cs t F Q pv W _ hs hi hed hX had hp hE => edit_step fc caps last X Inv heg hInv hlast s r (edit_any fc caps last X Inv heg hInv hlast r) o v b off cs t F Q pv W hs hi hed hX had hp hE
end Go.Proofs.YthbdhijkdldmoaaGreatDoor
