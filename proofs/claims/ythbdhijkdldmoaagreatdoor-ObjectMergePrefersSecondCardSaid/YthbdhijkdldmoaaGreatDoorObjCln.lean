/- The walk of clone. The walk of clone. -/
import Derived.Test.YthbdhijkdldmoaaGreatDoorObjOwn
import Derived.Test.YthbdhijkdldmoaaGreatDoorObjList
namespace Go.Proofs.YthbdhijkdldmoaaGreatDoor
open Go.RowKit Tk Ob
theorem v5cs_set : ∀ (l : List V5) (i : Nat) (u : V5), i < l.length → (((((v5cs l).set (i * 5) u.k).set (i * 5 + 1) u.i).set (i * 5 + 2) u.t).set (i * 5 + 3) u.ks).set (i * 5 + 4) u.os = v5cs (l.set i u)
  | [], i, u, h => absurd h (by simp)
  | x :: l, 0, u, _ => by simp [v5cs, V5.cells]
  | x :: l, i + 1, u, h => by
    have := v5cs_set l i u (by simpa using h)
    simp only [v5cs, List.flatMap_cons, List.set_cons_succ] at this ⊢
    rw [← this, show (i + 1) * 5 = i * 5 + 1 + 1 + 1 + 1 + 1 by omega]
    simp only [V5.cells, List.cons_append, List.nil_append, List.set_cons_succ, Nat.add_right_comm _ 1]
/-- A row of the call's own, its cells. -/
theorem own_cells {w : World} {base size n : Nat} {t : TypeId} {v : Value} {xs : List Value} (h : w.ownsRow base t size v n xs) (hn : 0 < n) :
    ∃ g cap, v = .slice (some ⟨g, 0, none⟩) n cap ∧ base ≤ g ∧ g < w.heap.size ∧ (∀ k u, xs[k]? = some u → w.cell? ⟨g, k, none⟩ = some u) ∧ ∀ k, w.frozen? ⟨g, k, none⟩ = false := by
  have hb := own_lt h
  have hs := SlM.of_own h
  obtain ⟨hl, h⟩ := h
  rcases h with ⟨rfl, rfl⟩ | ⟨g, cap, cur, rfl, hg, hh, hnc, hcm, hsz', hx⟩
  · omega
  · obtain ⟨b, off, e, _, _, hc⟩ := SlM.addr hs hn
    injection e with e
    injection e with e1 e2
    subst e1; subst e2
    exact ⟨g, cap, rfl, hg, (hb g rfl).2, fun k u hu => by have := hc k u hu; rwa [Nat.zero_add] at this, fun k => by simp [World.frozen?, hh]⟩
theorem own_putk {w : World} {base g n cap k size : Nat} {t : TypeId} {xs : List Value} (h : w.ownsRow base t size (.slice (some ⟨g, 0, none⟩) n cap) n xs) (u : Value) : (w.setCell ⟨g, k, none⟩ u).ownsRow base t size (.slice (some ⟨g, 0, none⟩) n cap) n (xs.set k u) := by
  obtain ⟨hl, h⟩ := h
  refine ⟨by simpa using hl, ?_⟩
  rcases h with ⟨e, _⟩ | ⟨g', cap', cur, e, hg, hh, hn, hc, hs, hx⟩
  · cases e
  · injection e with e1 _ e3
    injection e1 with e1
    injection e1 with e1
    subst e1; subst e3
    refine .inr ⟨g, cap, cur.setIfInBounds k u, rfl, hg, ?_, hn, hc, by simpa using hs, ?_⟩
    · simp [World.setCell, Array.getElem?_modify, hh]
    · rw [Array.toList_setIfInBounds, List.take_set, hx]
/-- Five cells of a block written. -/
abbrev put5 (w : World) (g o : Nat) (u : V5) : World := ((((w.setCell ⟨g, o, none⟩ u.k).setCell ⟨g, o + 1, none⟩ u.i).setCell ⟨g, o + 2, none⟩ u.t).setCell ⟨g, o + 3, none⟩ u.ks).setCell ⟨g, o + 4, none⟩ u.os
theorem put5_frs {R g o : Nat} {T : Nat → Prop} {w w' : World} (h : FrS R T w w') (hg : R ≤ g ∨ T g) (u : V5) : FrS R T w (put5 w' g o u) :=
  ((((FrS.put h (p := ⟨g, o, none⟩) hg u.k).put (p := ⟨g, o + 1, none⟩) hg u.i).put (p := ⟨g, o + 2, none⟩) hg u.t).put (p := ⟨g, o + 3, none⟩) hg u.ks).put (p := ⟨g, o + 4, none⟩) hg u.os
theorem put5_own {w : World} {base g n cap i : Nat} {t : TypeId} {l : List V5} (h : w.ownsRow base t 5 (.slice (some ⟨g, 0, none⟩) n cap) n (v5cs l)) (hi : i < l.length) (u : V5) :
    (put5 w g (i * 5) u).ownsRow base t 5 (.slice (some ⟨g, 0, none⟩) n cap) n (v5cs (l.set i u)) := by
  rw [← v5cs_set l i u hi]
  exact own_putk (own_putk (own_putk (own_putk (own_putk h _) _) _) _) _
/-- The first i elements of a row made anew, the others as before. -/
structure CloR (w : World) (B : Nat) (kv dv : Value) (vs rows : List V5) (ks : List Ox) (i : Nat) (Fs : Nat → Nat → Prop) : Prop where
  row : w.ownsRow B 25 5 dv ks.length (v5cs rows)
  len : rows.length = ks.length
  old : ∀ j (h1 : j < rows.length) (h2 : j < vs.length), i ≤ j → rows[j] = vs[j]
  new : ∀ j (h1 : j < rows.length) (h2 : j < ks.length), j < i → OwnO w rows[j] ks[j] (Fs j)
  bd : ∀ j x, j < i → Fs j x → B ≤ x ∧ x < w.heap.size ∧ kv.ownBlock ≠ some x ∧ dv.ownBlock ≠ some x
  dj : ∀ j j' x, j < i → j' < i → j ≠ j' → Fs j x → ¬ Fs j' x
theorem CloR.push {w w9 : World} {B g n cap i : Nat} {kv : Value} {vs rows : List V5} {ks : List Ox} {Fs : Nat → Nat → Prop} {u : V5} {F : Nat → Prop}
    (h : CloR w B kv (.slice (some ⟨g, 0, none⟩) n cap) vs rows ks i Fs) (hn : n = ks.length) (hi : i < ks.length) (hb : Below w.heap.size w w9) (hkv : ∀ x, kv.ownBlock = some x → x < w.heap.size) (hu : OwnO w9 u (ks[i]'hi) F) (hF : ∀ x, F x → w.heap.size ≤ x) :
    ∃ Fs', CloR (put5 w9 g (i * 5) u) B kv (.slice (some ⟨g, 0, none⟩) n cap) vs (rows.set i u) ks (i + 1) Fs' := by
  subst hn
  obtain ⟨G, g1, g2, g3⟩ := hu.lt
  have hgl : g < w.heap.size := (own_lt h.row g rfl).2
  have hgB : B ≤ g := (own_lt h.row g rfl).1
  have hfr : FrS w.heap.size (fun k => k = g) w (put5 w9 g (i * 5) u) := put5_frs (T := fun k => k = g) (FrS.of_below hb (Nat.le_refl _)) (.inr rfl) u
  have hf9 : FrS w9.heap.size (fun k => k = g) w9 (put5 w9 g (i * 5) u) := put5_frs (T := fun k => k = g) (FrS.refl _ _ _) (.inr rfl) u
  have hs9 := hf9.size
  have hsz := hb.size
  have hr9 : w9.ownsRow B 25 5 (.slice (some ⟨g, 0, none⟩) ks.length cap) ks.length (v5cs rows) := own_same h.row fun x hx => hb.block x (own_lt h.row x hx).2
  refine ⟨fun j => if j = i then G else Fs j, put5_own hr9 (by rw [h.len]; exact hi) u, by simpa using h.len, fun j h1 h2 hj => ?_, fun j h1 h2 hj => ?_, fun j x hj hx => ?_, fun j j' x hj hj' hne hx hx' => ?_⟩
  · rw [List.getElem_set_ne (by omega)]
    exact h.old j (by simpa using h1) h2 (by omega)
  · by_cases e : j = i
    · subst e
      rw [List.getElem_set_self, if_pos rfl]
      exact g1.keep fun x hx hl => hf9.block x hl (by have := hF x (g2 x hx); omega)
    · rw [List.getElem_set_ne (by omega), if_neg e]
      exact (h.new j (by simpa using h1) h2 (by omega)).keep fun x hx hl => hfr.block x hl (by intro e2; subst e2; exact (h.bd j x (by omega) hx).2.2.2 rfl)
  · by_cases e : j = i
    · subst e
      rw [if_pos rfl] at hx
      have h1 := hF x (g2 x hx)
      have h2 := g3 x hx
      refine ⟨by omega, by omega, fun e => by have := hkv x e; omega, fun e => ?_⟩
      simp [Value.ownBlock] at e
      omega
    · rw [if_neg e] at hx
      obtain ⟨a1, a2, a3, a4⟩ := h.bd j x (by omega) hx
      exact ⟨a1, by omega, a3, a4⟩
  · by_cases e : j = i
    · subst e
      rw [if_pos rfl] at hx
      rw [if_neg (by omega)] at hx'
      have h1 := hF x (g2 x hx)
      have := (h.bd j' x (by omega) hx').2.1
      omega
    · rw [if_neg e] at hx
      by_cases e' : j' = i
      · subst e'
        rw [if_pos rfl] at hx'
        have h1 := hF x (g2 x hx')
        have := (h.bd j x (by omega) hx).2.1
        omega
      · rw [if_neg e'] at hx'
        exact h.dj j j' x (by omega) (by omega) hne hx hx'
theorem CloR.done {w : World} {B : Nat} {kv dv : Value} {vs rows : List V5} {keys : List Tk.Src} {kids : List Ox} {Fs : Nat → Nat → Prop} (k i : Int) (t : Tk.Src)
    (h : CloR w B kv dv vs rows kids kids.length Fs) (hk : w.ownsRow B 9 1 kv keys.length (strs keys)) (hne : ∀ x, kv.ownBlock = some x → dv.ownBlock ≠ some x) :
    OwnO w ⟨.int .i64 k, .int .i64 i, .string ⟨t.toArray⟩, kv, dv⟩ (.mk k i t keys kids) (fun x => B ≤ x) :=
  .mk _ k i t keys kids kv dv rows Fs (own_base hk (Nat.zero_le _)) (own_base h.row (Nat.zero_le _)) h.len (fun j a b => h.new j b a a) (fun x hx => (own_lt hk x hx).1) (fun x hx => (own_lt h.row x hx).1) (fun j x hj hx => (h.bd j x hj hx).1) hne (fun j x hj hx => (h.bd j x hj hx).2.2) fun j j' x hj hj' hn hx => h.dj j j' x hj hj' hn hx
/-- slices.Clone at strings. -/
theorem clone_strs (ks : List Tk.Src) (v : Value) (P : Nat → Prop) (w : World) (h : Sl w P v (strs ks)) (hn : ks.length ≤ 100000) :
    Calls Tryz.prog 16 #[v] w fun e w' => ∃ v', e = .returned v' ∧ w'.ownsRow w.heap.size 9 1 v' ks.length (strs ks) ∧ Below w.heap.size w w' := by
  have hl : (strs ks).length = ks.length := by simp [strs]
  obtain ⟨A, c, rfl⟩ := h.form
  cases A with
  | none =>
    have h0 : (strs ks).length = 0 := by
      rcases Nat.eq_zero_or_pos (strs ks).length with h0 | h0
      · exact h0
      · obtain ⟨b, o, e, _⟩ := h.plainA h0; cases e
    have e : ks = [] := List.eq_nil_of_length_eq_zero (by omega)
    subst e
    refine (slices_Clone_string_nil (strs []).length c w).mono fun e w' hh => ?_
    obtain ⟨rfl, rfl⟩ := hh
    exact ⟨_, rfl, World.ownsRow_nil _ _ _ _, Below.refl _ _⟩
  | some a =>
    by_cases h0 : ks.length = 0
    · have e : ks = [] := List.eq_nil_of_length_eq_zero h0
      subst e
      exact (slices_Clone_string_zero a c w).mono fun e w' ⟨v', e1, e2, _, e4⟩ => ⟨v', e1, e2, e4⟩
    · obtain ⟨b, o, e, _, hc⟩ := h.plainA (by omega)
      cases e
      refine (slices_Clone_string b o (strs ks).length c (ks.map fun s => ⟨s.toArray⟩) w (by simp [strs]) (by omega) (fun j hj => hc j _ ?_)).mono fun e w' ⟨v', e1, e2, _, e4⟩ => ⟨v', e1, ?_, e4⟩
      · have hj' : j < ks.length := by simpa using hj
        simp [strs, hj', List.getD_eq_getElem?_getD]
      · have e3 : ((ks.map fun s => (⟨s.toArray⟩ : ByteArray)).take (strs ks).length).map Value.string = strs ks := by
          rw [List.take_of_length_le (by simp [strs])]
          simp [strs]
        rw [e3, hl] at e2
        exact e2
end Go.Proofs.YthbdhijkdldmoaaGreatDoor
namespace Go.Proofs.YthbdhijkdldmoaaGreatDoor
open Go.RowKit Tk Ob
def ClonePost (o : Ox) (w : World) (e : Ending) (w' : World) : Prop := Below w.heap.size w w' ∧ ∃ v : V5, e = .returned v.val ∧ OwnO w' v o (fun x => w.heap.size ≤ x)
theorem kids_one {P : Nat → Prop} {w : World} {vs : List V5} {kids : List Ox} (hl : vs.length = kids.length) (h : ∀ j (h : j < kids.length) (h2 : j < vs.length), ObjV P w vs[j] kids[j]) : ∀ u ∈ v5cs vs, u.oneCell' = true := by
  intro u hu
  unfold v5cs at hu
  obtain ⟨v, hv, hu⟩ := List.mem_flatMap.1 hu
  obtain ⟨j, hj, rfl⟩ := List.mem_iff_getElem.1 hv
  exact (h j (by omega) hj).one u hu
set_option maxRecDepth 100000 in
set_option maxHeartbeats 16000000 in
theorem clone_any : ∀ (m : Nat) (o : Ox) (vo : V5) (P : Nat → Prop) (w : World), SizeOf.sizeOf o ≤ m → Ad o → ObjV P w vo o → Calls Tryz.prog 28 #[vo.val] w (ClonePost o w)
  | 0, o, vo, P, w, hm, _, _ => by cases o; simp at hm
  | m + 1, o, vo, P, w, hm, had, ho => by
    have HC : Hid (∀ k ∈ o.kids, ∀ (v : V5) (P : Nat → Prop) (W : World), ObjV P W v k → Calls Tryz.prog 28 #[v.val] W (ClonePost k W)) := fun k hk v P W hv =>
      clone_any m k v P W (by cases o with | mk a b c d e => have := List.sizeOf_lt_of_mem hk; simp at hm; simp [Ox.kids] at this; omega) (had.kid k hk) hv
    obtain ⟨hk256, hd256, -⟩ := had.small
    have ho1 := ho.mono (Q := fun k => k < w.heap.size) fun k hk _ => hk
    obtain ⟨kv, dv, vs, rfl, h1, h2, hvl, hvk⟩ := ho1.open_
    obtain ⟨k0, i0, t0, keys, kids⟩ := o
    simp only [Ox.kind, Ox.int, Ox.text, Ox.keys, Ox.kids] at *
    have HOne := Lib.hid (kids_one hvl hvk)
    have HVk := Lib.hid hvk
    obtain ⟨A, ck, rfl⟩ := h1.form
    obtain ⟨Bd, cd, rfl⟩ := h2.form
    have HK1 := Lib.hid h1
    have HD1 := Lib.hid h2
    have HKc : Hid (∀ W, Below w.heap.size w W → Calls Tryz.prog 16 #[.slice A (strs keys).length ck] W fun e w' => ∃ v', e = .returned v' ∧ w'.ownsRow W.heap.size 9 1 v' keys.length (strs keys) ∧ Below W.heap.size W w') :=
      fun W hW => clone_strs keys _ _ W (HK1.out.keep hW.size fun k hk _ => hW.block k hk) (by omega)
    have HDc : Hid (∀ W, Below w.heap.size w W → Calls Tryz.prog 51 #[.slice Bd kids.length cd] W fun e w' => ∃ v', e = .returned v' ∧ w'.ownsRow W.heap.size 25 5 v' kids.length (v5cs vs) ∧ Below W.heap.size W w') :=
      fun W hW => by have := clone_objs _ vs _ W (by rw [hvl]; exact HD1.out.keep hW.size fun k hk _ => hW.block k hk) HOne.out (by omega); rwa [hvl] at this
    generalize (strs keys).length = nk at *
    have hb0 := ((Blk.new w 25 #[.int .i64 k0, .int .i64 i0, .string ⟨t0.toArray⟩, .slice A nk ck, .slice Bd kids.length cd]).alloc (.cells #[.int .i64 0, .int .i64 0, .string ⟨#[]⟩, .slice none 0 0, .slice none 0 0] 25))
    have hb1 := Blk.new (w.alloc (.cells #[.int .i64 k0, .int .i64 i0, .string ⟨t0.toArray⟩, .slice A nk ck, .slice Bd kids.length cd] 25)) 25 #[.int .i64 0, .int .i64 0, .string ⟨#[]⟩, .slice none 0 0, .slice none 0 0]
    rw [show (w.alloc (.cells #[.int .i64 k0, .int .i64 i0, .string ⟨t0.toArray⟩, .slice A nk ck, .slice Bd kids.length cd] 25)).heap.size = w.heap.size + 1 by simp] at hb1
    have hbl0 : Below w.heap.size w ((w.alloc (.cells #[.int .i64 k0, .int .i64 i0, .string ⟨t0.toArray⟩, .slice A nk ck, .slice Bd kids.length cd] 25)).alloc (.cells #[.int .i64 0, .int .i64 0, .string ⟨#[]⟩, .slice none 0 0, .slice none 0 0] 25)) := ((Below.refl _ _).alloc (Nat.le_refl _) _).alloc (by simp) _
    have HB0 := Lib.hid hb0
    have HB1 := Lib.hid hb1
    have HBl0 := Lib.hid hbl0
    unfold V5.val
    dsimp only
    generalize hT : (⟨t0.toArray⟩ : ByteArray) = T0 at *
    have HT := Lib.hid hT
    clear hb0 hb1 hbl0 h1 h2 ho ho1 hvk hm hT
    go_enter Tryz.func28, Tryz.ntmps28
    go_wp2_with fail
    refine (HKc.out _ HBl0.out).mono ?_
    rintro e w1 ⟨kv', rfl, hko, hbl1⟩
    have hsz0 : w.heap.size + 2 ≤ w1.heap.size := by have := hbl1.size; simpa using this
    have hb01 := HB0.out.below hbl1 HB0.out.lt
    have hb11 := HB1.out.below hbl1 HB1.out.lt
    have hbw1 := HBl0.out.trans (hbl1.mono HBl0.out.size)
    have HKo : Hid (w1.ownsRow (w.heap.size + 2) 9 1 kv' keys.length (strs keys)) := own_base hko (by simp)
    have HBw1 := Lib.hid hbw1
    have zf := Blk.frozen hb01 3
    have zc : w1.cell? ⟨w.heap.size, 3, none⟩ = some (.slice A nk ck) := (hb01.cell 3).trans rfl
    have hb02 := Lib.hid (hb01.put 3 kv')
    have HB11 := Lib.hid (hb11.far (p := ⟨w.heap.size, 3, none⟩) (by simp) kv')
    have HBw2 := Lib.hid (hbw1.setCell (p := ⟨w.heap.size, 3, none⟩) (Nat.le_refl w.heap.size) kv')
    have hzl := hb01.lt
    obtain ⟨A1, c1, rfl⟩ := own_form hko
    clear hko hbl1 hb01 hb11 hbw1
    have y4 : (w1.setCell ⟨w.heap.size, 3, none⟩ (.slice A1 keys.length c1)).cell? ⟨w.heap.size, 4, none⟩ = some (.slice Bd kids.length cd) := (hb02.out.cell 4).trans rfl
    go_wp2_with fail
    clear y4
    refine (HDc.out _ HBw2.out).mono ?_
    rintro e w3 ⟨dv', rfl, hdo, hbl3⟩
    have hsz3 : w1.heap.size ≤ w3.heap.size := by have := hbl3.size; simpa [World.setCell] using this
    have hbw3 := HBw2.out.trans (hbl3.mono HBw2.out.size)
    have hb03 := hb02.out.below hbl3 hb02.out.lt
    have hb13 := HB11.out.below hbl3 HB11.out.lt
    obtain ⟨A2, c2, rfl⟩ := own_form hdo
    have hdo2 := own_base hdo (show w1.heap.size ≤ _ by simp [World.setCell])
    have hko3 := own_same (w' := w3) HKo.out fun x hx => (hbl3.block x (by have := (own_lt HKo.out x hx).2; simpa [World.setCell] using this)).trans (Below.heap_setCell w1 ⟨w.heap.size, 3, none⟩ (.slice A1 keys.length c1) x (by have := (own_lt HKo.out x hx).1; show x ≠ w.heap.size; omega))
    have hkb : ∀ x, (Value.slice A1 keys.length c1).ownBlock = some x → x < w1.heap.size := fun x hx => (own_lt HKo.out x hx).2
    have zf4 := Blk.frozen hb03 4
    have zc4 : w3.cell? ⟨w.heap.size, 4, none⟩ = some (.slice Bd kids.length cd) := (hb03.cell 4).trans rfl
    have zl4 := hb03.lt
    have hb04 := Lib.hid (hb03.put 4 (.slice A2 kids.length c2))
    have hb14 := Lib.hid (hb13.far (p := ⟨w.heap.size, 4, none⟩) (by simp) (.slice A2 kids.length c2))
    have HBw4 := Lib.hid (hbw3.setCell (p := ⟨w.heap.size, 4, none⟩) (Nat.le_refl w.heap.size) (.slice A2 kids.length c2))
    have hko4 : (w3.setCell ⟨w.heap.size, 4, none⟩ (.slice A2 kids.length c2)).ownsRow (w.heap.size + 2) 9 1 (.slice A1 keys.length c1) keys.length (strs keys) := own_same hko3 fun x hx => Below.heap_setCell w3 ⟨w.heap.size, 4, none⟩ (.slice A2 kids.length c2) x (by have := (own_lt hko3 x hx).1; show x ≠ w.heap.size; omega)
    have hdo4 : (w3.setCell ⟨w.heap.size, 4, none⟩ (.slice A2 kids.length c2)).ownsRow w1.heap.size 25 5 (.slice A2 kids.length c2) kids.length (v5cs vs) := own_same hdo2 fun x hx => Below.heap_setCell w3 ⟨w.heap.size, 4, none⟩ (.slice A2 kids.length c2) x (by have := (own_lt hdo2 x hx).1; show x ≠ w.heap.size; omega)
    have hne : ∀ x, (Value.slice A1 keys.length c1).ownBlock = some x → (Value.slice A2 kids.length c2).ownBlock ≠ some x := fun x hx hy => by have h1 := hkb x hx; have h2 := (own_lt hdo2 x hy).1; omega
    have hcl0 : CloR (w3.setCell ⟨w.heap.size, 4, none⟩ (.slice A2 kids.length c2)) (w.heap.size + 2) (.slice A1 keys.length c1) (.slice A2 kids.length c2) vs vs kids 0 (fun _ _ => False) :=
      ⟨own_base hdo4 hsz0, hvl, fun _ _ _ _ => rfl, fun _ _ _ h => absurd h (by omega), fun _ _ h => absurd h (by omega), fun _ _ _ h => absurd h (by omega)⟩
    have HNe := Lib.hid hne
    have HCl0 := Lib.hid hcl0
    have HKo4 := Lib.hid hko4
    have hsw4 : w.heap.size + 2 ≤ (w3.setCell ⟨w.heap.size, 4, none⟩ (.slice A2 kids.length c2)).heap.size := by simp [World.setCell]; omega
    have hsw1 : w1.heap.size ≤ (w3.setCell ⟨w.heap.size, 4, none⟩ (.slice A2 kids.length c2)).heap.size := by simp [World.setCell]; omega
    have HKl := Lib.hid hkb
    clear hdo hbl3 hbw3 hb03 hb13 hdo2 hko3 hkb hdo4 hne hcl0 hko4 HKo HDc HKc
    have y4 : (w3.setCell ⟨w.heap.size, 4, none⟩ (.slice A2 kids.length c2)).cell? ⟨w.heap.size, 4, none⟩ = some (.slice A2 kids.length c2) := (hb04.out.cell 4).trans rfl
    go_wp2_with fail
    generalize (w3.setCell ⟨w.heap.size, 4, none⟩ (.slice A2 kids.length c2)) = w4 at *
    clear y4
    go_loopw [3, 16] (fun _ vi wr => True ∧ ∃ (i : Nat) (rows : List V5) (Fs : Nat → Nat → Prop), i ≤ kids.length ∧ vi = .int .i64 i ∧ Below w.heap.size w wr ∧ w4.heap.size ≤ wr.heap.size ∧ CloR wr (w.heap.size + 2) (.slice A1 keys.length c1) (.slice A2 kids.length c2) vs rows kids i Fs ∧
      wr.ownsRow (w.heap.size + 2) 9 1 (.slice A1 keys.length c1) keys.length (strs keys) ∧
      B5 wr w.heap.size ⟨.int .i64 k0, .int .i64 i0, .string T0, .slice A1 keys.length c1, .slice A2 kids.length c2⟩ ∧ B5 wr (w.heap.size + 1) ⟨.int .i64 0, .int .i64 0, .string ⟨#[]⟩, .slice none 0 0, .slice none 0 0⟩) (fun _ i _ => kids.length - (intOf i).toNat)
    case atStart => exact ⟨trivial, 0, vs, _, Nat.zero_le _, rfl, HBw4.out, Nat.le_refl _, HCl0.out, HKo4.out, hb04.out, hb14.out⟩
    case round =>
      obtain ⟨-, i, rows, Fs, hi, rfl, hbl, hsz4, hcl, hko, hb0, hb1⟩ := hrel
      have HCl := Lib.hid hcl
      have HBl := Lib.hid hbl
      have HKo := Lib.hid hko
      have HB0 := Lib.hid hb0
      have HB1 := Lib.hid hb1
      clear hcl hbl hko hb0 hb1
      by_cases hlt : i < kids.length
      · have hia : (i : Int) < (kids.length : Int) := by omega
        have hir : i < rows.length := by rw [HCl.out.len]; exact hlt
        obtain ⟨g, cap, e, hgB, hgl, hgc, hgf⟩ := own_cells HCl.out.row (by omega)
        injection e with e1 _ e3
        subst e1 e3
        have hvi : i < vs.length := by omega
        have hold := HCl.out.old i hir hvi (Nat.le_refl _)
        have hov := (HVk.out i hlt hvi).later HBl.out
        have HCi := Lib.hid (HC.out kids[i] (List.getElem_mem hlt))
        have y : ∀ j u, j < 5 → (rows[i]'hir).cells[j]? = some u → wr.cell? ⟨g, i * 5 + j, none⟩ = some u := fun j u hj hu => hgc _ _ (by rw [v5cs_get rows i j hir hj]; exact hu)
        rw [hold] at y
        obtain ⟨kvi, dvi, usi, hui, s1, s2, -, -⟩ := hov.open_
        have HOv := Lib.hid hov
        have HDo : Hid (∀ (w9 : World) (u : V5) (F : Nat → Prop), Below wr.heap.size wr w9 → OwnO w9 u kids[i] F → (∀ x, F x → wr.heap.size ≤ x) → ∃ Fs', CloR (put5 w9 g (i * 5) u) (w.heap.size + 2) (.slice A1 keys.length c1) (.slice (some ⟨g, 0, none⟩) kids.length c2) vs (rows.set i u) kids (i + 1) Fs') :=
          fun w9 u F hb ho hF => HCl.out.push rfl hlt hb (fun x hx => Nat.lt_of_lt_of_le (HKl.out x hx) (by omega)) ho hF
        generalize vs[i] = ui at *
        generalize kids[i] = ki at *
        subst hui
        obtain ⟨A3, c3, rfl⟩ := s1.form
        obtain ⟨A4, c4, rfl⟩ := s2.form
        generalize ki.kids.length = m1 at *
        generalize (strs ki.keys).length = m2 at *
        generalize ki.kind = kk at *
        generalize ki.int = ii at *
        generalize (⟨ki.text.toArray⟩ : ByteArray) = TT at *
        have y0 := y 0 _ (by omega) rfl
        have y1 := y 1 _ (by omega) rfl
        have y2 := y 2 _ (by omega) rfl
        have y3 := y 3 _ (by omega) rfl
        have y4 := y 4 _ (by omega) rfl
        rw [Nat.add_zero] at y0
        clear y hov s1 s2 hold
        have hbx := Blk.new wr 25 #[.int .i64 kk, .int .i64 ii, .string TT, .slice A3 m2 c3, .slice A4 m1 c4]
        have hb0x := HB0.out.alloc (.cells #[.int .i64 kk, .int .i64 ii, .string TT, .slice A3 m2 c3, .slice A4 m1 c4] 25)
        have hb1x := HB1.out.alloc (.cells #[.int .i64 kk, .int .i64 ii, .string TT, .slice A3 m2 c3, .slice A4 m1 c4] 25)
        have HSt : ∀ W, Below (wr.heap.size + 1) (wr.alloc (.cells #[.int .i64 kk, .int .i64 ii, .string TT, .slice A3 m2 c3, .slice A4 m1 c4] 25)) W → (W.cell? ⟨w.heap.size, 4, none⟩ = some (.slice (some ⟨g, 0, none⟩) kids.length c2) ∧ W.cell? ⟨wr.heap.size, 0, none⟩ = some (.int .i64 kk) ∧ W.cell? ⟨wr.heap.size, 1, none⟩ = some (.int .i64 ii) ∧ W.cell? ⟨wr.heap.size, 2, none⟩ = some (.string TT) ∧ W.cell? ⟨wr.heap.size, 3, none⟩ = some (.slice A3 m2 c3) ∧ W.cell? ⟨wr.heap.size, 4, none⟩ = some (.slice A4 m1 c4)) := fun W hW => by
          have q1 := hb0x.below hW (by omega)
          have q2 := hbx.below hW (by omega)
          exact ⟨(q1.cell 4).trans rfl, (q2.cell 0).trans rfl, (q2.cell 1).trans rfl, (q2.cell 2).trans rfl, (q2.cell 3).trans rfl, (q2.cell 4).trans rfl⟩
        have HStH := Lib.hid HSt
        have hS0 := HSt (wr.alloc (.cells #[.int .i64 kk, .int .i64 ii, .string TT, .slice A3 m2 c3, .slice A4 m1 c4] 25)).drew (Below.refl _ (wr.alloc (.cells #[.int .i64 kk, .int .i64 ii, .string TT, .slice A3 m2 c3, .slice A4 m1 c4] 25))).drew
        clear HSt
        go_wp2_with fail
        refine wp_region_tail (fun W => (W.cell? ⟨w.heap.size, 4, none⟩ = some (.slice (some ⟨g, 0, none⟩) kids.length c2) ∧ W.cell? ⟨wr.heap.size, 0, none⟩ = some (.int .i64 kk) ∧ W.cell? ⟨wr.heap.size, 1, none⟩ = some (.int .i64 ii) ∧ W.cell? ⟨wr.heap.size, 2, none⟩ = some (.string TT) ∧ W.cell? ⟨wr.heap.size, 3, none⟩ = some (.slice A3 m2 c3) ∧ W.cell? ⟨wr.heap.size, 4, none⟩ = some (.slice A4 m1 c4))) 5 (by kernel_rfl) (by kernel_rfl) hS0 (fun hHeld => ?_)
        refine wpAnyD_take 0 (v := ?_) rfl (by kernel_rfl) (by kernel_rfl) (by kernel_rfl) (fun _ _ _ h => h) hHeld (Or.inl ⟨by rfl, ?_⟩) ?_
        rotate_left
        · intro w' hw'; obtain ⟨a4, x0, x1, x2, x3, x4⟩ := hw'; go_simp; try with_reducible rfl
        try simp only [Act.put, List.setIfInBounds_toArray, List.set_cons_zero, List.set_cons_succ]
        refine wpAnyD_take 1 (v := ?_) rfl (by kernel_rfl) (by kernel_rfl) (by kernel_rfl) (fun _ _ _ h => h) hHeld (Or.inl ⟨by rfl, ?_⟩) ?_
        rotate_left
        · intro w' hw'; obtain ⟨a4, x0, x1, x2, x3, x4⟩ := hw'; go_simp; try with_reducible rfl
        try simp only [Act.put, List.setIfInBounds_toArray, List.set_cons_zero, List.set_cons_succ]
        refine wpAnyD_take 2 (v := ?_) rfl (by kernel_rfl) (by kernel_rfl) (by kernel_rfl) (fun _ _ _ h => h) hHeld (Or.inl ⟨by rfl, ?_⟩) ?_
        rotate_left
        · intro w' hw'; obtain ⟨a4, x0, x1, x2, x3, x4⟩ := hw'; go_simp; try with_reducible rfl
        try simp only [Act.put, List.setIfInBounds_toArray, List.set_cons_zero, List.set_cons_succ]
        refine wpAnyD_take 3 (v := ?_) rfl (by kernel_rfl) (by kernel_rfl) (by kernel_rfl) (fun _ _ _ h => h) hHeld (Or.inl ⟨by rfl, ?_⟩) ?_
        rotate_left
        · intro w' hw'; obtain ⟨a4, x0, x1, x2, x3, x4⟩ := hw'; go_simp; try with_reducible rfl
        try simp only [Act.put, List.setIfInBounds_toArray, List.set_cons_zero, List.set_cons_succ]
        refine wpAnyD_ready [4] (by kernel_rfl) ?_
        refine AllReadyD.cons rfl (fun K hK => ?_) AllReadyD.nil
        go_simp
        refine (HCi.out _ _ (wr.alloc (.cells #[.int .i64 kk, .int .i64 ii, .string TT, .slice A3 m2 c3, .slice A4 m1 c4] 25)).drew (HOv.out.alloc _).drew).mono ?_
        rintro e w9 ⟨hb9, u, rfl, hou⟩
        have hs9 : wr.heap.size + 1 ≤ w9.heap.size := by have := hb9.size; simpa [World.drew, World.drewN] using this
        have hb9' : Below (wr.heap.size + 1) (wr.alloc (.cells #[.int .i64 kk, .int .i64 ii, .string TT, .slice A3 m2 c3, .slice A4 m1 c4] 25)) w9 := (Below.refl _ (wr.alloc (.cells #[.int .i64 kk, .int .i64 ii, .string TT, .slice A3 m2 c3, .slice A4 m1 c4] 25))).drew.trans (hb9.mono (by simp [World.drew]))
        have hbr9 : Below wr.heap.size wr w9 := ((Below.refl _ wr).alloc (Nat.le_refl _) _).trans (hb9'.mono (by omega))
        obtain ⟨Fs', hcl'⟩ := HDo.out w9 u _ hbr9 hou (fun x hx => by simp [World.drew] at hx; omega)
        have HCl' := Lib.hid hcl'
        have hg9 := HStH.out w9 hb9'
        obtain ⟨kv9, dv9, us9, rfl, s91, s92, -, -⟩ := hou.objV.open_
        obtain ⟨A9, c9, rfl⟩ := s91.form
        obtain ⟨D9, e9, rfl⟩ := s92.form
        clear hcl' s91 s92 hou hb9
        unfold V5.val
        dsimp only
        generalize ki.kids.length = m91 at *
        generalize (strs ki.keys).length = m92 at *
        generalize ki.kind = kk9 at *
        generalize ki.int = ii9 at *
        generalize (⟨ki.text.toArray⟩ : ByteArray) = TT9 at *
        refine hK.out _ _ hg9 (fun hHeld => ?_)
        refine wpAnyD_done (by kernel_rfl) ?_
        simp only [List.drop_succ_cons, List.drop_zero]
        have hgl9 : g < w9.heap.size := by omega
        have f0 : ∀ k, w9.frozen? ⟨g, k, none⟩ = false := fun k => by rw [World.frozen?, hbr9.block g hgl]; exact hgf k
        have g0 := (hbr9.cell (p := ⟨g, i * 5, none⟩) hgl).trans y0
        have g1 := (hbr9.cell (p := ⟨g, i * 5 + 1, none⟩) hgl).trans y1
        have g2 := (hbr9.cell (p := ⟨g, i * 5 + 2, none⟩) hgl).trans y2
        have g3 := (hbr9.cell (p := ⟨g, i * 5 + 3, none⟩) hgl).trans y3
        have g4 := (hbr9.cell (p := ⟨g, i * 5 + 4, none⟩) hgl).trans y4
        clear hHeld hK hS0 y0 y1 y2 y3 y4 hg9
        go_wp2_with fail
        have hf9 : FrS wr.heap.size (fun k => k = g) wr (put5 w9 g (i * 5) ⟨.int .i64 kk9, .int .i64 ii9, .string TT9, .slice A9 m92 c9, .slice D9 m91 e9⟩) := put5_frs (T := fun k => k = g) (FrS.of_below hbr9 (Nat.le_refl _)) (.inr rfl) _
        have hbw : Below w.heap.size w (put5 w9 g (i * 5) ⟨.int .i64 kk9, .int .i64 ii9, .string TT9, .slice A9 m92 c9, .slice D9 m91 e9⟩) := HBl.out.trans (hf9.below HBl.out.size fun k hk => by omega)
        have hsw := Nat.le_trans hsz4 hf9.size
        refine ⟨⟨trivial, i + 1, _, Fs', by omega, by simp, hbw, hsw, HCl'.out, ?_, ?_, ?_⟩, by simp [intOf]; omega⟩
        · exact own_same HKo.out fun x hx => hf9.block x (own_lt HKo.out x hx).2 (by intro e; subst e; exact HNe.out x hx rfl)
        · exact hf9.blk HB0.out HB0.out.lt (by omega)
        · exact hf9.blk HB1.out HB1.out.lt (by omega)
      · obtain rfl : i = kids.length := by omega
        obtain ⟨x0, x1, x2, x3, x4⟩ := b5_cells HB0.out
        obtain ⟨y0, y1, y2, y3, y4⟩ := b5_cells HB1.out
        have z0 := fun k => Blk.frozen HB1.out k
        have hz := HB1.out.lt
        go_wp2_with fail
        have hbz := b5_put (v := ⟨.int .i64 0, .int .i64 0, .string ⟨#[]⟩, .slice none 0 0, .slice none 0 0⟩) HB1.out ⟨.int .i64 k0, .int .i64 i0, .string T0, .slice A1 keys.length c1, .slice A2 kids.length c2⟩
        have hfz := b5_frs (R := w.heap.size) (T := fun _ => False) (FrS.of_below HBl.out (Nat.le_refl _)) (show w.heap.size ≤ w.heap.size + 1 by omega) ⟨.int .i64 k0, .int .i64 i0, .string T0, .slice A1 keys.length c1, .slice A2 kids.length c2⟩
        have hfw := b5_frs' (R := wr.heap.size) (T := fun k => k = w.heap.size + 1) (FrS.refl _ _ wr) rfl ⟨.int .i64 k0, .int .i64 i0, .string T0, .slice A1 keys.length c1, .slice A2 kids.length c2⟩
        have hown := HCl.out.done k0 i0 t0 HKo.out HNe.out
        refine bodyPost_ret (v := .agg #[.int .i64 k0, .int .i64 i0, .string T0, .slice A1 keys.length c1, .slice A2 kids.length c2]) ?_ rfl ?_
        · obtain ⟨z0, z1, z2, z3, z4⟩ := b5_cells hbz
          clear hbz hfz hfw hown
          generalize World.setCell _ _ _ = W at *
          simp [results, Tryz.results28, go_sem, z0, z1, z2, z3, z4]
        · refine ⟨hfz.below (Nat.le_refl _) (fun _ h => h.elim), ⟨_, _, _, _, _⟩, rfl, ?_⟩
          have hown3 := (hown.keep fun x hx hl => hfw.block x hl (by omega)).mono (G := fun x => w.heap.size ≤ x) fun x hx => by omega
          rw [HT.out] at hown3
          exact hown3
end Go.Proofs.YthbdhijkdldmoaaGreatDoor
