/- The walk of Drop's closure. -/
import Derived.Test.YthbdhijkdldmoaaGreatDoorObjSetC
import Derived.Test.YthbdhijkdldmoaaGreatDoorObjDel
import Derived.Deep.DeepCutAuto
import Derived.Deep.CutBlock
namespace Go.Proofs.YthbdhijkdldmoaaGreatDoor
open Go.RowKit Tk Ob
def delSrc (i j : Nat) : Option Nat := if j < i then some j else some (j + 1)
theorem v5cs_del (vs : List V5) (i : Nat) : v5cs (vs.eraseIdx i) = (v5cs vs).take (i * 5) ++ (v5cs vs).drop ((i + 1) * 5) := by
  rw [List.eraseIdx_eq_take_drop_succ, ← v5cs_take, ← v5cs_drop]
  unfold v5cs
  rw [List.flatMap_append]
theorem strs_del (ks : List Tk.Src) (i : Nat) : strs (ks.eraseIdx i) = (strs ks).take (i * 1) ++ (strs ks).drop ((i + 1) * 1) := by
  rw [List.eraseIdx_eq_take_drop_succ, Nat.mul_one, Nat.mul_one]
  unfold strs
  rw [List.map_append, List.map_take, List.map_drop]
theorem EdPost.del {w w' : World} {o : Ox} {F X : Nat → Prop} {b off i : Nat} {cs : Array Value} {t : TypeId} {kv dv kv' dv' : Value} {vs : List V5} {Fs : Nat → Nat → Prop} {keys' : List Tk.Src}
    (he : Ed w b off cs t ⟨.int .i64 o.kind, .int .i64 o.int, .string ⟨o.text.toArray⟩, kv, dv⟩ o F) (h : OwnP w o F kv dv vs Fs) (hi : i < o.kids.length) (hX : ∀ x, X x → ¬ F x ∧ x ≠ b)
    (hk : w'.ownsRow 0 9 1 kv' keys'.length (strs keys')) (hd : w'.ownsRow 0 25 5 dv' (o.kids.length - 1) ((v5cs vs).take (i * 5) ++ (v5cs vs).drop ((i + 1) * 5)))
    (hf : FrS w.heap.size (fun k => k = b ∨ kv.ownBlock = some k ∨ dv.ownBlock = some k) w w') (hkv : kv'.ownBlock = kv.ownBlock) (hdv : dv'.ownBlock = dv.ownBlock)
    (hb : Blk w' b t ((cs.setIfInBounds (off + 3) kv').setIfInBounds (off + 4) dv')) :
    EdPost (.ok (o.withKids keys' (o.kids.eraseIdx i))) w b off cs t F X (.returned (.int .i64 0)) w' := by
  have hiv : i < vs.length := by rw [h.hl]; exact hi
  have hkl : (o.kids.eraseIdx i).length = o.kids.length - 1 := List.length_eraseIdx_of_lt hi
  have hvl : (vs.eraseIdx i).length = vs.length - 1 := List.length_eraseIdx_of_lt hiv
  refine ⟨hf.weak (Nat.le_refl _) fun k _ hk => hk.imp id fun hk => hk.elim (h.fk k) (h.fd k), rfl, ⟨.int .i64 o.kind, .int .i64 o.int, .string ⟨o.text.toArray⟩, kv', dv'⟩, ?_, ?_⟩
  · have := set5_two he.cell kv' dv'
    dsimp only at this
    rw [this]; exact hb
  · refine OwnP.build (vv := ⟨.int .i64 0, .int .i64 0, .int .i64 0, .int .i64 0, .int .i64 0⟩) (V := o) (delSrc i) h hf.size he.far hX hk (vs' := vs.eraseIdx i) ?_ ?_ (fun x hx h1 h2 h3 => hf.block x hx fun hh => hh.elim h3 fun hh => hh.elim h1 h2) (.inl hkv) (.inl hdv) (fun x hx hx' => h.dk x (hkv ▸ hx) (hdv ▸ hx')) (fun j p hj hs => ?_) (fun j hj hs => ?_) (fun j j' hj hj' e => ?_)
    · rw [hkl, v5cs_del]; exact hd
    · rw [hvl, hkl, h.hl]
    · rw [hkl] at hj
      unfold delSrc at hs
      rw [List.getElem?_eraseIdx, List.getElem?_eraseIdx]
      split at hs <;> rename_i hlt <;> injection hs with hs <;> subst hs
      · rw [if_pos hlt, if_pos hlt]; exact ⟨by omega, rfl, rfl⟩
      · rw [if_neg hlt, if_neg hlt]; exact ⟨by omega, rfl, rfl⟩
    · unfold delSrc at hs
      split at hs <;> cases hs
    · unfold delSrc at e
      split at e <;> split at e <;> simp at e <;> omega
set_option maxRecDepth 100000 in
set_option maxHeartbeats 4000000 in
theorem drpc_none (b off : Nat) (i : Int) (cs : Array Value) (t : TypeId) (F X : Nat → Prop) (S : ByteArray) (w : World) :
    Calls Tryz.prog 35 #[.pointer (some ⟨b, off, none⟩), .int .i64 i, .bool false, .string S] w (EdPost (.error 8) w b off cs t F X) := by
  go_enter Tryz.func35, Tryz.ntmps35
  go_wp2_with fail
  go_ret
  exact ⟨FrS.refl _ _ _, rfl⟩
set_option maxRecDepth 100000 in
set_option maxHeartbeats 8000000 in
theorem drpc_any (o : Ox) (v : V5) (b off i : Nat) (cs : Array Value) (t : TypeId) (F X : Nat → Prop) (S : ByteArray) (w : World) (he : Ed w b off cs t v o F) (hX : ∀ x, X x → ¬ F x ∧ x ≠ b) (hi : i < o.kids.length) (h256 : o.kids.length ≤ 256) (hlen : o.kind = 7 → o.keys.length = o.kids.length) :
    Calls Tryz.prog 35 #[.pointer (some ⟨b, off, none⟩), .int .i64 i, .bool true, .string S] w (EdPost (.ok (o.withKids (if o.kind = 7 then o.keys.eraseIdx i else o.keys) (o.kids.eraseIdx i))) w b off cs t F X) := by
  obtain ⟨kv, dv, vs, Fs, rfl, hP⟩ := he.own.opn
  have hiv : i < vs.length := by rw [hP.hl]; exact hi
  obtain ⟨g, cap, cur, rfl, hnc, hcm, hFg, hgl, hk⟩ := hP.kid hi hiv
  obtain ⟨x0, x1, x2, x3, x4⟩ := he.cells
  have hbl := he.blk.lt
  have hgb : g ≠ b := fun e => he.far (e ▸ hFg)
  have hkb : kv.ownBlock ≠ some b := fun e => he.far (hP.fk b e)
  have hkg : kv.ownBlock ≠ some g := fun e => hP.dk g e rfl
  have HDel : Hid (Calls Tryz.prog 36 #[.slice (some ⟨g, 0, none⟩) o.kids.length cap, .int .i64 i, .int .i64 ((i : Int) + 1)] w fun e w' => e = .returned (.slice (some ⟨g, 0, none⟩) (o.kids.length - 1) cap) ∧
      w'.ownsRow 0 25 5 (.slice (some ⟨g, 0, none⟩) (o.kids.length - 1) cap) (o.kids.length - 1) ((v5cs vs).take (i * 5) ++ (v5cs vs).drop ((i + 1) * 5)) ∧ FrS w.heap.size (fun k => k = g) w w') :=
    delO 0 g o.kids.length cap i (v5cs vs) w hP.hd hi hP.one
  have HB0 := Lib.hid he.blk
  by_cases h7 : o.kind = 7
  · have hl7 := hlen h7
    have hik : i < o.keys.length := by omega
    obtain ⟨gk, ck, ev, -, hgkl, -, -⟩ := own_cells hP.hk (by omega)
    subst ev
    have hgkb : gk ≠ b := fun e => hkb (e ▸ rfl)
    have hgkg : gk ≠ g := fun e => hkg (e ▸ rfl)
    have HDelS : Hid (∀ W : World, W.ownsRow 0 9 1 (.slice (some ⟨gk, 0, none⟩) o.keys.length ck) o.keys.length (strs o.keys) → Calls Tryz.prog 37 #[.slice (some ⟨gk, 0, none⟩) o.keys.length ck, .int .i64 i, .int .i64 ((i : Int) + 1)] W fun e w' => e = .returned (.slice (some ⟨gk, 0, none⟩) (o.keys.length - 1) ck) ∧
        w'.ownsRow 0 9 1 (.slice (some ⟨gk, 0, none⟩) (o.keys.length - 1) ck) (o.keys.length - 1) ((strs o.keys).take (i * 1) ++ (strs o.keys).drop ((i + 1) * 1)) ∧ FrS W.heap.size (fun k => k = gk) W w') := fun W hW =>
      delS 0 gk o.keys.length ck i (strs o.keys) W hW hik (strs_one _)
    have HSt : Hid (∀ w1 : World, FrS w.heap.size (fun k => k = g) w w1 → (w1.setCell ⟨b, off + 4, none⟩ (.slice (some ⟨g, 0, none⟩) (o.kids.length - 1) cap)).ownsRow 0 9 1 (.slice (some ⟨gk, 0, none⟩) o.keys.length ck) o.keys.length (strs o.keys) ∧ Blk w1 b t cs ∧ FrS w.heap.size (fun k => k = b ∨ k = g) w (w1.setCell ⟨b, off + 4, none⟩ (.slice (some ⟨g, 0, none⟩) (o.kids.length - 1) cap))) := fun w1 hf => by
      have hff : FrS w.heap.size (fun k => k = b ∨ k = g) w (w1.setCell ⟨b, off + 4, none⟩ (.slice (some ⟨g, 0, none⟩) (o.kids.length - 1) cap)) := (hf.weak (Nat.le_refl _) fun _ _ h => .inr h).put (.inr (.inl rfl)) _
      exact ⟨own_same hP.hk fun x hx => hff.block x (own_lt hP.hk x hx).2 fun hh => hh.elim (fun e => hkb (e ▸ hx)) fun e => hkg (e ▸ hx), hf.blk he.blk hbl fun e => hgb e.symm, hff⟩
    have hFin : Hid (∀ w1 : World, w1.ownsRow 0 25 5 (.slice (some ⟨g, 0, none⟩) (o.kids.length - 1) cap) (o.kids.length - 1) ((v5cs vs).take (i * 5) ++ (v5cs vs).drop ((i + 1) * 5)) → FrS w.heap.size (fun k => k = g) w w1 →
        ∀ w2 : World, w2.ownsRow 0 9 1 (.slice (some ⟨gk, 0, none⟩) (o.keys.length - 1) ck) (o.keys.length - 1) ((strs o.keys).take (i * 1) ++ (strs o.keys).drop ((i + 1) * 1)) → FrS (w1.setCell ⟨b, off + 4, none⟩ (.slice (some ⟨g, 0, none⟩) (o.kids.length - 1) cap)).heap.size (fun k => k = gk) (w1.setCell ⟨b, off + 4, none⟩ (.slice (some ⟨g, 0, none⟩) (o.kids.length - 1) cap)) w2 →
        EdPost (.ok (o.withKids (if o.kind = 7 then o.keys.eraseIdx i else o.keys) (o.kids.eraseIdx i))) w b off cs t F X (.returned (.int .i64 0)) (w2.setCell ⟨b, off + 3, none⟩ (.slice (some ⟨gk, 0, none⟩) (o.keys.length - 1) ck))) := fun w1 ho1 hf1 w2 ho2 hf2 => by
      obtain ⟨_, hb1, hfa⟩ := HSt.out w1 hf1
      have hsa := hfa.size
      have hb1' := hb1.put (off + 4) (.slice (some ⟨g, 0, none⟩) (o.kids.length - 1) cap)
      have hb2 := hf2.blk hb1' hb1'.lt (fun e => hgkb e.symm)
      have hb3 := hb2.put (off + 3) (.slice (some ⟨gk, 0, none⟩) (o.keys.length - 1) ck)
      rw [Array.setIfInBounds_comm _ _ (by omega)] at hb3
      rw [if_pos h7]
      refine EdPost.del (dv' := .slice (some ⟨g, 0, none⟩) (o.kids.length - 1) cap) he hP hi hX (kv' := .slice (some ⟨gk, 0, none⟩) (o.keys.length - 1) ck) ?_ ?_ ?_ rfl rfl hb3
      · rw [List.length_eraseIdx_of_lt hik, strs_del]
        exact own_same ho2 fun x hx => Below.heap_setCell w2 _ _ x fun e => by
          injection hx with hx; exact hgkb (hx.trans e)
      · refine own_same ho1 fun x hx => ?_
        injection hx with hx
        subst hx
        rw [Below.heap_setCell w2 _ _ g hgb, hf2.block g (by have := (own_lt ho1 g rfl).2; simpa [World.setCell] using this) (fun e => hgkg e.symm), Below.heap_setCell w1 _ _ g hgb]
      · exact ((hfa.weak (Nat.le_refl _) fun k _ hk => hk.imp id fun e => .inr (by rw [e]; rfl)).trans (hf2.weak hsa fun k _ hk => .inr (.inl (by rw [hk]; rfl)))).put (.inr (.inl rfl)) _
    have hk7 : (o.kind == 7) = true := by simpa using h7
    have hw1 : IntKind.i64.wrap ((i : Int) + 1) = (i : Int) + 1 := by rw [IntKind.wrap_i64]; omega
    dsimp only at x0 x3 x4
    generalize EdPost _ _ _ _ _ _ _ _ = Post at *
    clear he hP hX hk hlen h7 hl7 x1 x2
    generalize o.kids.length = n at *
    generalize o.keys.length = nk at *
    generalize o.kind = k at *
    go_enter Tryz.func35, Tryz.ntmps35
    go_wp2_with fail
    refine HDel.out.mono ?_
    rintro e w1 ⟨rfl, ho1, hf1⟩
    obtain ⟨hO, hb1, hfa⟩ := HSt.out w1 hf1
    have HFn := Lib.hid (hFin.out w1 ho1 hf1)
    have HO := Lib.hid hO
    have rl := hb1.lt
    have rf := Blk.frozen hb1 (off + 4)
    have r4 := (Blk.cell hb1 (off + 4)).trans ((Blk.cell HB0.out (off + 4)).symm.trans x4)
    have hb2 := hb1.put (off + 4) (.slice (some ⟨g, 0, none⟩) (n - 1) cap)
    have q0 : (w1.setCell ⟨b, off + 4, none⟩ (.slice (some ⟨g, 0, none⟩) (n - 1) cap)).cell? ⟨b, off, none⟩ = some (.int .i64 k) := (Blk.cell hb2 off).trans ((Array.getElem?_setIfInBounds_ne (by omega)).trans ((Blk.cell HB0.out off).symm.trans x0))
    have q3 : (w1.setCell ⟨b, off + 4, none⟩ (.slice (some ⟨g, 0, none⟩) (n - 1) cap)).cell? ⟨b, off + 3, none⟩ = some (.slice (some ⟨gk, 0, none⟩) nk ck) := (Blk.cell hb2 (off + 3)).trans ((Array.getElem?_setIfInBounds_ne (by omega)).trans ((Blk.cell HB0.out (off + 3)).symm.trans x3))
    have HB2 := Lib.hid hb2
    clear hO hb1 hfa hFin HSt hb2 ho1 hf1 x0 x3 x4 HDel
    go_upto_region 4 with (fail)
    clear rl rf r4
    generalize hcs2 : cs.setIfInBounds (off + 4) (.slice (some ⟨g, 0, none⟩) (n - 1) cap) = cs2 at *
    generalize w1.setCell ⟨b, off + 4, none⟩ (.slice (some ⟨g, 0, none⟩) (n - 1) cap) = w2 at *
    clear hcs2
    have rl2 := HB2.out.lt
    go_wp2_with fail
    refine (HDelS.out _ HO.out).mono ?_
    rintro e w3 ⟨rfl, ho3, hf3⟩
    have hb3 := hf3.blk HB2.out rl2 (fun e => hgkb e.symm)
    have rl := hb3.lt
    have rf := Blk.frozen hb3 (off + 3)
    have r3 := (Blk.cell hb3 (off + 3)).trans ((Blk.cell HB2.out (off + 3)).symm.trans q3)
    have HEnd := Lib.hid (HFn.out w3 ho3 hf3)
    clear hb3 ho3 hf3 q0 q3
    go_wp2_with fail
    exact HEnd.out
  · have hFin : Hid (∀ w1 : World, w1.ownsRow 0 25 5 (.slice (some ⟨g, 0, none⟩) (o.kids.length - 1) cap) (o.kids.length - 1) ((v5cs vs).take (i * 5) ++ (v5cs vs).drop ((i + 1) * 5)) → FrS w.heap.size (fun k => k = g) w w1 →
        Blk w1 b t cs ∧ EdPost (.ok (o.withKids (if o.kind = 7 then o.keys.eraseIdx i else o.keys) (o.kids.eraseIdx i))) w b off cs t F X (.returned (.int .i64 0)) (w1.setCell ⟨b, off + 4, none⟩ (.slice (some ⟨g, 0, none⟩) (o.kids.length - 1) cap))) := fun w1 ho1 hf1 => by
      have hb1 := hf1.blk he.blk hbl fun e => hgb e.symm
      have hff : FrS w.heap.size (fun k => k = b ∨ k = g) w (w1.setCell ⟨b, off + 4, none⟩ (.slice (some ⟨g, 0, none⟩) (o.kids.length - 1) cap)) := (hf1.weak (Nat.le_refl _) fun _ _ h => .inr h).put (.inr (.inl rfl)) _
      refine ⟨hb1, ?_⟩
      rw [if_neg h7]
      refine EdPost.del (dv' := .slice (some ⟨g, 0, none⟩) (o.kids.length - 1) cap) he hP hi hX (own_same hP.hk fun x hx => hff.block x (own_lt hP.hk x hx).2 fun hh => hh.elim (fun e => hkb (e ▸ hx)) fun e => hkg (e ▸ hx)) (own_same ho1 fun x hx => Below.heap_setCell w1 _ _ x fun e => by
          injection hx with hx; exact hgb (hx.trans e)) (hff.weak (Nat.le_refl _) fun k _ hk => hk.imp id fun e => .inr (by rw [e]; rfl)) rfl rfl ?_
      have h3 : cs.setIfInBounds (off + 3) kv = cs := set_same (he.cell 3 _ rfl)
      rw [h3]
      exact hb1.put _ _
    have hk7 : (o.kind == 7) = false := by simpa using h7
    have hw1 : IntKind.i64.wrap ((i : Int) + 1) = (i : Int) + 1 := by rw [IntKind.wrap_i64]; omega
    dsimp only at x0 x3 x4
    generalize EdPost _ _ _ _ _ _ _ _ = Post at *
    clear he hP hX hk hlen h7 x1 x2 x3
    generalize o.kids.length = n at *
    generalize o.kind = k at *
    go_enter Tryz.func35, Tryz.ntmps35
    go_wp2_with fail
    refine HDel.out.mono ?_
    rintro e w1 ⟨rfl, ho1, hf1⟩
    obtain ⟨hb1, hend⟩ := hFin.out w1 ho1 hf1
    have HEnd := Lib.hid hend
    have rl := hb1.lt
    have rf := Blk.frozen hb1 (off + 4)
    have r4 := (Blk.cell hb1 (off + 4)).trans ((Blk.cell HB0.out (off + 4)).symm.trans x4)
    have hb2 := hb1.put (off + 4) (.slice (some ⟨g, 0, none⟩) (n - 1) cap)
    have q0 : (w1.setCell ⟨b, off + 4, none⟩ (.slice (some ⟨g, 0, none⟩) (n - 1) cap)).cell? ⟨b, off, none⟩ = some (.int .i64 k) := (Blk.cell hb2 off).trans ((Array.getElem?_setIfInBounds_ne (by omega)).trans ((Blk.cell HB0.out off).symm.trans x0))
    clear hb1 hend hFin hb2 ho1 hf1 x0 x4 HDel
    go_upto_region 4 with (fail)
    clear rl rf r4
    generalize w1.setCell ⟨b, off + 4, none⟩ (.slice (some ⟨g, 0, none⟩) (n - 1) cap) = w2 at *
    go_wp2_with fail
    exact HEnd.out
end Go.Proofs.YthbdhijkdldmoaaGreatDoor
