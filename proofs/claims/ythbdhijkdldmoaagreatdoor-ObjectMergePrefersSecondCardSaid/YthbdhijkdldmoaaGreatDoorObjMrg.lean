/- Merge walked. -/
import Derived.Test.YthbdhijkdldmoaaGreatDoorObjLw2
import Derived.Test.YthbdhijkdldmoaaGreatDoorObjMg
namespace Go.Proofs.YthbdhijkdldmoaaGreatDoor
open Go.RowKit Tk Ob
set_option maxHeartbeats 4000000 in
/-- What an insertion of a key and of an element into an object of the call's own comes to, in the order of the code. -/
theorem ins_prep (o V : Ox) (kv dv : Value) (vs : List V5) (Fs : Nat → Nat → Prop) (vv : V5) (b off i : Nat) (cs : Array Value) (t : TypeId) (F X : Nat → Prop) (s : Tk.Src) (w : World) (he : Ed w b off cs t ⟨.int .i64 o.kind, .int .i64 o.int, .string ⟨o.text.toArray⟩, kv, dv⟩ o F) (hP : OwnP w o F kv dv vs Fs) (hX : ∀ x, X x → ¬ F x ∧ x ≠ b) (hV : OwnO w vv V X) (h256 : o.kids.length ≤ 1000) (hlen : o.keys.length = o.kids.length) (hi : i ≤ o.kids.length) :
    Hid (∀ W : World, Blk W w.heap.size 9 #[.string ⟨s.toArray⟩] → (∀ x, x < w.heap.size → W.heap[x]? = w.heap[x]?) →
      Calls Tryz.prog 30 #[kv, .int .i64 i, .slice (some ⟨w.heap.size, 0, none⟩) 1 1] W (InsPost 0 9 1 kv o.keys.length i (strs o.keys) [.string ⟨s.toArray⟩] W)) ∧
    Hid (∀ (W1 w2 : World) (v' : Value), FrS w.heap.size (fun _ => False) w W1 → FrS W1.heap.size (fun k => kv.ownBlock = some k) W1 w2 → FrS w.heap.size (fun k => k = b ∨ kv.ownBlock = some k) w (w2.setCell ⟨b, off + 3, none⟩ v') ∧ Blk w2 b t cs ∧ Blk (w2.setCell ⟨b, off + 3, none⟩ v') b t (cs.setIfInBounds (off + 3) v')) ∧
    Hid (∀ w3 W : World, FrS w.heap.size (fun k => k = b ∨ kv.ownBlock = some k) w w3 → Blk W w3.heap.size 25 vv.cells.toArray → (∀ x, x < w3.heap.size → W.heap[x]? = w3.heap[x]?) →
      Calls Tryz.prog 31 #[dv, .int .i64 i, .slice (some ⟨w3.heap.size, 0, none⟩) 1 1] W (InsPost 0 25 5 dv o.kids.length i (v5cs vs) vv.cells W)) ∧
    Hid (∀ (W1 w2 : World) (kv' : Value), FrS w.heap.size (fun _ => False) w W1 → w2.ownsRow 0 9 1 kv' (o.keys.length + 1) ((strs o.keys).take (i * 1) ++ [.string ⟨s.toArray⟩] ++ (strs o.keys).drop (i * 1)) → FrS W1.heap.size (fun k => kv.ownBlock = some k) W1 w2 → (kv'.ownBlock = kv.ownBlock ∨ ∃ k, kv'.ownBlock = some k ∧ W1.heap.size ≤ k) →
      ∀ (W3 w4 : World) (v' : Value), FrS (w2.setCell ⟨b, off + 3, none⟩ kv').heap.size (fun _ => False) (w2.setCell ⟨b, off + 3, none⟩ kv') W3 → w4.ownsRow 0 25 5 v' (o.kids.length + 1) ((v5cs vs).take (i * 5) ++ vv.cells ++ (v5cs vs).drop (i * 5)) → FrS W3.heap.size (fun k => dv.ownBlock = some k) W3 w4 → (v'.ownBlock = dv.ownBlock ∨ ∃ k, v'.ownBlock = some k ∧ W3.heap.size ≤ k) →
      EdPost (.ok (o.withKids (o.keys.insertIdx i s) (o.kids.insertIdx i V))) w b off cs t F X (.returned (.int .i64 0)) (w4.setCell ⟨b, off + 4, none⟩ v')) := by
  have hbl := he.blk.lt
  have hv1 := v5_one hV
  have hik : i ≤ o.keys.length := by omega
  have hdb : dv.ownBlock ≠ some b := fun e => he.far (hP.fd b e)
  have hkb : kv.ownBlock ≠ some b := fun e => he.far (hP.fk b e)
  have hkw : kv.ownBlock ≠ some w.heap.size := fun e => by have := (own_lt hP.hk _ e).2; omega
  have HInsS : Hid (∀ W : World, Blk W w.heap.size 9 #[.string ⟨s.toArray⟩] → (∀ x, x < w.heap.size → W.heap[x]? = w.heap[x]?) →
      Calls Tryz.prog 30 #[kv, .int .i64 i, .slice (some ⟨w.heap.size, 0, none⟩) 1 1] W (InsPost 0 9 1 kv o.keys.length i (strs o.keys) [.string ⟨s.toArray⟩] W)) := fun W hW hk =>
    insAnyS 0 o.keys.length i w.heap.size 1 kv (strs o.keys) [.string ⟨s.toArray⟩] W (own_same hP.hk fun x hx => hk x (own_lt hP.hk x hx).2) hik (Nat.zero_le _) (by omega) hW hkw rfl (strs_one _) (fun u hu => by simp at hu; subst hu; rfl)
  have hSt : Hid (∀ (W1 w2 : World) (v' : Value), FrS w.heap.size (fun _ => False) w W1 → FrS W1.heap.size (fun k => kv.ownBlock = some k) W1 w2 → FrS w.heap.size (fun k => k = b ∨ kv.ownBlock = some k) w (w2.setCell ⟨b, off + 3, none⟩ v') ∧ Blk w2 b t cs ∧ Blk (w2.setCell ⟨b, off + 3, none⟩ v') b t (cs.setIfInBounds (off + 3) v')) := fun W1 w2 v' hf1 hf2 => by
    have hf : FrS w.heap.size (fun k => kv.ownBlock = some k) w w2 := (hf1.weak (Nat.le_refl _) fun _ _ h => h.elim).trans (hf2.weak hf1.size fun _ _ h => h)
    have h1 := hf.blk he.blk hbl hkb
    exact ⟨(hf.weak (Nat.le_refl _) fun _ _ h => .inr h).put (.inr (.inl rfl)) v', h1, h1.put _ _⟩
  have HIns : Hid (∀ w3 W : World, FrS w.heap.size (fun k => k = b ∨ kv.ownBlock = some k) w w3 → Blk W w3.heap.size 25 vv.cells.toArray → (∀ x, x < w3.heap.size → W.heap[x]? = w3.heap[x]?) →
      Calls Tryz.prog 31 #[dv, .int .i64 i, .slice (some ⟨w3.heap.size, 0, none⟩) 1 1] W (InsPost 0 25 5 dv o.kids.length i (v5cs vs) vv.cells W)) := fun w3 W hf hW hk => by
    have hlt := fun x (hx : dv.ownBlock = some x) => (own_lt hP.hd x hx).2
    have hsz := hf.size
    exact insAnyO 0 o.kids.length i w3.heap.size 1 dv (v5cs vs) vv.cells W (own_same hP.hd fun x hx => (hk x (Nat.lt_of_lt_of_le (hlt x hx) hsz)).trans (hf.block x (hlt x hx) fun hh => hh.elim (fun e => hdb (e ▸ hx)) fun h => hP.dk x h hx)) hi (Nat.zero_le _) (by omega) hW (fun e => by have := hlt _ e; omega) rfl hP.one hv1
  have hFin : Hid (∀ (W1 w2 : World) (kv' : Value), FrS w.heap.size (fun _ => False) w W1 → w2.ownsRow 0 9 1 kv' (o.keys.length + 1) ((strs o.keys).take (i * 1) ++ [.string ⟨s.toArray⟩] ++ (strs o.keys).drop (i * 1)) → FrS W1.heap.size (fun k => kv.ownBlock = some k) W1 w2 → (kv'.ownBlock = kv.ownBlock ∨ ∃ k, kv'.ownBlock = some k ∧ W1.heap.size ≤ k) →
      ∀ (W3 w4 : World) (v' : Value), FrS (w2.setCell ⟨b, off + 3, none⟩ kv').heap.size (fun _ => False) (w2.setCell ⟨b, off + 3, none⟩ kv') W3 → w4.ownsRow 0 25 5 v' (o.kids.length + 1) ((v5cs vs).take (i * 5) ++ vv.cells ++ (v5cs vs).drop (i * 5)) → FrS W3.heap.size (fun k => dv.ownBlock = some k) W3 w4 → (v'.ownBlock = dv.ownBlock ∨ ∃ k, v'.ownBlock = some k ∧ W3.heap.size ≤ k) →
      EdPost (.ok (o.withKids (o.keys.insertIdx i s) (o.kids.insertIdx i V))) w b off cs t F X (.returned (.int .i64 0)) (w4.setCell ⟨b, off + 4, none⟩ v')) := fun W1 w2 kv' hf1 ho hf2 hv' W3 w4 v' hf3 ho4 hf4 hv4 => by
    obtain ⟨hfa, hba, hbb⟩ := hSt.out W1 w2 kv' hf1 hf2
    have hs1 := hf1.size
    have hs2 := hf2.size
    have hs3 := hf3.size
    have hsa := hfa.size
    have hs22 : (w2.setCell ⟨b, off + 3, none⟩ kv').heap.size = w2.heap.size := by simp [World.setCell]
    have hkl : ∀ x, kv'.ownBlock = some x → x < w2.heap.size := fun x hx => (own_lt ho x hx).2
    have hdl : ∀ x, dv.ownBlock = some x → x < w.heap.size := fun x hx => (own_lt hP.hd x hx).2
    have hf34 : FrS (w2.setCell ⟨b, off + 3, none⟩ kv').heap.size (fun k => dv.ownBlock = some k) (w2.setCell ⟨b, off + 3, none⟩ kv') w4 := (hf3.weak (Nat.le_refl _) fun _ _ h => h.elim).trans (hf4.weak hs3 fun _ _ h => h)
    have hfull : FrS w.heap.size (fun k => k = b ∨ kv.ownBlock = some k ∨ dv.ownBlock = some k) w (w4.setCell ⟨b, off + 4, none⟩ v') :=
      ((hfa.weak (Nat.le_refl _) fun _ _ h => h.imp id .inl).trans (hf34.weak hsa fun _ _ h => .inr (.inr h))).put (.inr (.inl rfl)) v'
    have hkv2 : kv'.ownBlock = kv.ownBlock ∨ ∃ k, kv'.ownBlock = some k ∧ w.heap.size ≤ k := hv'.imp id fun ⟨k, a, b⟩ => ⟨k, a, by omega⟩
    have hv2 : v'.ownBlock = dv.ownBlock ∨ ∃ k, v'.ownBlock = some k ∧ w2.heap.size ≤ k := hv4.imp id fun ⟨k, a, b⟩ => ⟨k, a, by omega⟩
    have hkb' : ∀ x, kv'.ownBlock = some x → x ≠ b := fun x hx e => by
      subst e
      rcases hkv2 with h | ⟨k, h, hk⟩
      · exact hkb (h ▸ hx)
      · rw [h] at hx; cases hx; omega
    have hvb' : ∀ x, v'.ownBlock = some x → x ≠ b := fun x hx e => by
      subst e
      rcases hv2 with h | ⟨k, h, hk⟩
      · exact hdb (h ▸ hx)
      · rw [h] at hx; cases hx; omega
    have hkd : ∀ x, kv'.ownBlock = some x → dv.ownBlock ≠ some x := fun x hx e => by
      rcases hkv2 with h | ⟨k, h, hk⟩
      · exact hP.dk x (h ▸ hx) e
      · rw [h] at hx; cases hx; have := hdl x e; omega
    have hrk : (w4.setCell ⟨b, off + 4, none⟩ v').ownsRow 0 9 1 kv' (o.keys.insertIdx i s).length (strs (o.keys.insertIdx i s)) := by
      rw [ins_len o.keys i s hik, strs_ins o.keys i s hik]
      refine own_same ho fun x hx => ?_
      rw [Below.heap_setCell w4 _ _ x (hkb' x hx), hf34.block x (by rw [hs22]; exact hkl x hx) (hkd x hx), Below.heap_setCell w2 _ _ x (hkb' x hx)]
    refine EdPost.ins he hP hi hX hV hrk (own_same ho4 fun x hx => Below.heap_setCell w4 _ _ x (hvb' x hx)) hfull hkv2 (hv2.imp id fun ⟨k, a, b⟩ => ⟨k, a, by omega⟩) (fun x hx hx' => ?_) ?_
    · rcases hv2 with h | ⟨k, h, hk⟩
      · exact hkd x hx (h ▸ hx')
      · rw [h] at hx'; cases hx'; have := hkl x hx; omega
    · exact (hf34.blk hbb hbb.lt hdb).put _ _
  exact ⟨HInsS, hSt, HIns, hFin⟩
def zeroV : V5 := ⟨.int .i64 0, .int .i64 0, .string ⟨#[]⟩, .slice none 0 0, .slice none 0 0⟩
theorem zero_own (w : World) : OwnO w ⟨.int .i64 0, .int .i64 0, .string ⟨#[]⟩, .slice none 0 0, .slice none 0 0⟩ Ox.zero (fun _ => False) :=
  .mk (fun _ => False) 0 0 [] [] [] (.slice none 0 0) (.slice none 0 0) [] (fun _ _ => False) (World.ownsRow_nil _ _ _ _) (World.ownsRow_nil _ _ _ _) rfl (fun j h => absurd h (by simp)) (fun x h => by cases h) (fun x h => by cases h) (fun _ _ _ h => h) (fun x h => by cases h) (fun j x h => absurd h (by simp)) (fun j j' x h => absurd h (by simp))
theorem St3.frs {w wr w' : World} {v0 v1 v2 : V5} (h : St3 w wr v0 v1 v2) {T : Nat → Prop} (hf : FrS wr.heap.size T wr w') (hT : ∀ k, T k → w.heap.size + 3 ≤ k) : St3 w w' v0 v1 v2 :=
  ⟨h.be.trans (hf.below h.be.size fun k hk => by have := hT k hk; omega), hf.blk h.h0 h.h0.lt (fun hk => by have := hT _ hk; omega), hf.blk h.h1 h.h1.lt (fun hk => by have := hT _ hk; omega), hf.blk h.h2 h.h2.lt (fun hk => by have := hT _ hk; omega)⟩
/-- The dictionary that Merge makes, in its box. -/
structure MgO (w wr : World) (bo : Nat) (vo : V5) (out : Ox) : Prop where
  lo : w.heap.size + 3 ≤ bo
  blk : B5 wr bo vo
  own : OwnO wr vo out (fun x => w.heap.size + 3 ≤ x ∧ x ≠ bo)
  k7 : out.kind = 7
  so : Sorted out.keys
  len : out.keys.length = out.kids.length
section
variable {w wr w' : World} {bo : Nat} {vo : V5} {out : Ox}
theorem MgO.later (h : MgO w wr bo vo out) (hb : Below wr.heap.size wr w') : MgO w w' bo vo out :=
  ⟨h.lo, h.blk.below hb h.blk.lt, h.own.keep fun x _ hl => hb.block x hl, h.k7, h.so, h.len⟩
/-- The blocks of its rows. -/
def MgF (w wr : World) (bo x : Nat) : Prop := (w.heap.size + 3 ≤ x ∧ x ≠ bo) ∧ x < wr.heap.size
theorem MgO.ed (h : MgO w wr bo vo out) : Ed wr bo 0 #[vo.k, vo.i, vo.t, vo.ks, vo.os] 25 vo out (MgF w wr bo) := by
  refine ⟨h.blk, fun j u hu => by rw [Nat.zero_add, List.getElem?_toArray]; exact hu, ?_, fun hh => hh.1.2 rfl⟩
  obtain ⟨G, g1, g2, g3⟩ := h.own.lt
  exact g1.mono fun x hx => ⟨g2 x hx, g3 x hx⟩
theorem MgO.of {u : V5} {out' : Ox} {X : Nat → Prop} {e : Ending} {wq : World} (hlo : w.heap.size + 3 ≤ bo) (hb : bo < wq.heap.size) (hp : EdPost (.ok out') wq bo 0 #[u.k, u.i, u.t, u.ks, u.os] 25 (MgF w wr bo) X e w') (hX : ∀ x, X x → w.heap.size + 3 ≤ x ∧ x ≠ bo)
    (k7 : out'.kind = 7) (so : Sorted out'.keys) (len : out'.keys.length = out'.kids.length) : ∃ v', MgO w w' bo v' out' := by
  obtain ⟨_, _, v', hbl, how⟩ := hp
  refine ⟨v', hlo, ?_, how.mono fun x hx => ?_, k7, so, len⟩
  · exact hbl
  · rcases hx with hx | hx | hx
    · exact hx.1
    · exact hX x hx
    · exact ⟨by omega, by omega⟩
end
theorem merge_step {ks : List Tk.Src} {os : List Ox} {out : Ox} {j : Nat} (h1 : j < ks.length) (h2 : j < os.length) : mergeL (ks.drop j) (os.drop j) out = mergeL (ks.drop (j + 1)) (os.drop (j + 1)) (putD out ks[j] os[j]) := by
  rw [List.drop_eq_getElem_cons h1, List.drop_eq_getElem_cons h2]
  rfl
theorem put_found {out : Ox} {k : Tk.Src} {v : Ox} (h : (posK out.keys k).2 = true) : putD out k v = out.withKids out.keys (out.kids.set (posK out.keys k).1 v) := by unfold putD; rw [if_pos h]
theorem put_new {out : Ox} {k : Tk.Src} {v z : Ox} (h : (posK out.keys k).2 = false) (hl : out.keys.length = out.kids.length) : putD out k v = (out.withKids (out.keys.insertIdx (posK out.keys k).1 k) (out.kids.insertIdx (posK out.keys k).1 z)).withKids (out.keys.insertIdx (posK out.keys k).1 k) ((out.kids.insertIdx (posK out.keys k).1 z).set (posK out.keys k).1 v) := by
  unfold putD
  rw [if_neg (by rw [h]; simp), with_with, set_ins _ _ _ _ (by rw [← hl]; exact pos_le _ _)]
set_option maxRecDepth 100000 in
set_option maxHeartbeats 16000000 in
theorem merge_any (P P2 : Nat → Prop) (a b : Ox) (va vb : V5) (w : World) (ha : ObjV P w va a) (hb : ObjV P2 w vb b) (hT : Tab10 w) :
    Calls Tryz.prog 14 #[va.val, vb.val] w (ObPost (mergeF a b) w) := by
  have HCa : Hid (∀ W, Below w.heap.size w W → Calls Tryz.prog 11 #[va.val] W fun e w' => e = .returned (.int .i64 (checkO a)) ∧ Below W.heap.size W w') := fun W hW => check_obj P a va W (ha.later hW) (Tab10.later hT hW)
  have HCb : Hid (∀ W, Below w.heap.size w W → Calls Tryz.prog 11 #[vb.val] W fun e w' => e = .returned (.int .i64 (checkO b)) ∧ Below W.heap.size W w') := fun W hW => check_obj P2 b vb W (hb.later hW) (Tab10.later hT hW)
  have HCl : Hid (checkO a = 0 → ∀ W, Below w.heap.size w W → Calls Tryz.prog 28 #[va.val] W (ClonePost a W)) := fun h W hW => clone_any _ a va _ W (Nat.le_refl _) (check_ad h) (ha.later hW)
  have HC9 : Hid (∀ (W : World) (v' : V5) (o' : Ox) (G : Nat → Prop), Below w.heap.size w W → OwnO W v' o' G → Calls Tryz.prog 11 #[v'.val] W fun e w' => e = .returned (.int .i64 (checkO o')) ∧ Below W.heap.size W w') := fun W v' o' G hW h => check_obj G o' v' W h.objV (Tab10.later hT hW)
  have HG : Hid (mergeF a b = if checkO a ≠ 0 then .error (checkO a) else if checkO b ≠ 0 then .error (checkO b) else if a.kind ≠ 7 ∨ b.kind ≠ 7 then .error 14
      else if checkO (mergeL b.keys b.kids a) ≠ 0 then .error (checkO (mergeL b.keys b.kids a)) else .ok (mergeL b.keys b.kids a)) := rfl
  have HAa : Hid (checkO a = 0 → Ad a) := check_ad
  have HAb : Hid (checkO b = 0 → Ad b) := check_ad
  have hb1 := hb.mono (Q := fun k => k < w.heap.size) fun k hk _ => hk
  obtain ⟨kv0, dv0, us0, rfl, s1, s2, -, -⟩ := ha.open_
  obtain ⟨A0, c0, rfl⟩ := s1.form
  obtain ⟨E0, d0, rfl⟩ := s2.form
  clear s1 s2
  obtain ⟨kv1, dv1, us1, rfl, s1, s2, hul, hkid⟩ := hb1.open_
  obtain ⟨A1, c1, rfl⟩ := s1.form
  obtain ⟨E1, d1, rfl⟩ := s2.form
  have HS1 := Lib.hid s1
  have HS2 := Lib.hid s2
  have HUl := Lib.hid hul
  have HKid : Hid (checkO b = 0 → ∀ j (h2 : j < us1.length), ∀ W, Below w.heap.size w W → ObjV (fun k => k < w.heap.size) W us1[j] (b.kids.getD j Ox.zero) ∧ Calls Tryz.prog 28 #[us1[j].val] W (ClonePost (b.kids.getD j Ox.zero) W)) := fun h j h2 W hW => by
    have h1 : j < b.kids.length := by omega
    rw [List.getD_eq_getElem?_getD, List.getElem?_eq_getElem h1, Option.getD_some]
    exact ⟨(hkid j h1 h2).keep hW.size fun k hk _ => hW.block k hk, clone_any _ _ _ _ W (Nat.le_refl _) ((check_ad h).kid _ (List.getElem_mem h1)) ((hkid j h1 h2).keep hW.size fun k hk _ => hW.block k hk)⟩
  clear hkid
  have hpa : (strs a.keys).length = a.keys.length := by simp [strs]
  have hpb : (strs b.keys).length = b.keys.length := by simp [strs]
  unfold V5.val at HCa HCb HCl ⊢
  dsimp only at HCa HCb HCl ⊢
  generalize mergeF a b = R at *
  have HSt := Lib.hid (St3.new w ⟨.int .i64 a.kind, .int .i64 a.int, .string ⟨a.text.toArray⟩, .slice A0 (strs a.keys).length c0, .slice E0 a.kids.length d0⟩ ⟨.int .i64 b.kind, .int .i64 b.int, .string ⟨b.text.toArray⟩, .slice A1 (strs b.keys).length c1, .slice E1 b.kids.length d1⟩ ⟨.int .i64 0, .int .i64 0, .string ⟨#[]⟩, .slice none 0 0, .slice none 0 0⟩)
  rw [hpa] at HSt HCa HCl ⊢
  rw [hpb] at HSt HCb HS1 ⊢
  generalize hn0 : a.keys.length = n0 at *
  have HN0 := Lib.hid hn0
  clear hn0
  generalize a.kids.length = m0 at *
  generalize hk0 : a.kind = k0 at *
  have HK0 := Lib.hid hk0
  clear hk0
  generalize a.int = i0 at *
  generalize (⟨a.text.toArray⟩ : ByteArray) = T0 at *
  generalize hn1 : b.keys.length = n1 at *
  have HN1 := Lib.hid hn1
  clear hn1
  generalize hm1 : b.kids.length = m1 at *
  have HM1 := Lib.hid hm1
  clear hm1
  generalize hk1 : b.kind = k1 at *
  have HK1 := Lib.hid hk1
  clear hk1
  generalize b.int = i1 at *
  generalize (⟨b.text.toArray⟩ : ByteArray) = T1 at *
  generalize hca : checkO a = Ca at *
  have HCAa := Lib.hid hca
  clear hca
  generalize hcb : checkO b = Cb at *
  have HCAb := Lib.hid hcb
  clear hcb
  clear s1 s2 ha hb hb1 hT hul hpa hpb
  go_enter Tryz.func14, Tryz.ntmps14
  go_wp2_with fail
  have hal := HSt.out.later ((Below.refl _ _).alloc (Nat.le_refl _) (.cells #[.int .i64 k0, .int .i64 i0, .string T0, .slice A0 n0 c0, .slice E0 m0 d0, .int .i64 k1, .int .i64 i1, .string T1, .slice A1 n1 c1, .slice E1 m1 d1] 25))
  have HRow : Hid (Blk ((((w.alloc (.cells #[.int .i64 k0, .int .i64 i0, .string T0, .slice A0 n0 c0, .slice E0 m0 d0] 25)).alloc (.cells #[.int .i64 k1, .int .i64 i1, .string T1, .slice A1 n1 c1, .slice E1 m1 d1] 25)).alloc (.cells #[.int .i64 0, .int .i64 0, .string ⟨#[]⟩, .slice none 0 0, .slice none 0 0] 25)).alloc (.cells #[.int .i64 k0, .int .i64 i0, .string T0, .slice A0 n0 c0, .slice E0 m0 d0, .int .i64 k1, .int .i64 i1, .string T1, .slice A1 n1 c1, .slice E1 m1 d1] 25)) (w.heap.size + 3) 25 #[.int .i64 k0, .int .i64 i0, .string T0, .slice A0 n0 c0, .slice E0 m0 d0, .int .i64 k1, .int .i64 i1, .string T1, .slice A1 n1 c1, .slice E1 m1 d1]) := by
    have := Blk.new (((w.alloc (.cells #[.int .i64 k0, .int .i64 i0, .string T0, .slice A0 n0 c0, .slice E0 m0 d0] 25)).alloc (.cells #[.int .i64 k1, .int .i64 i1, .string T1, .slice A1 n1 c1, .slice E1 m1 d1] 25)).alloc (.cells #[.int .i64 0, .int .i64 0, .string ⟨#[]⟩, .slice none 0 0, .slice none 0 0] 25)) 25 #[.int .i64 k0, .int .i64 i0, .string T0, .slice A0 n0 c0, .slice E0 m0 d0, .int .i64 k1, .int .i64 i1, .string T1, .slice A1 n1 c1, .slice E1 m1 d1]
    rw [show (((w.alloc (.cells #[.int .i64 k0, .int .i64 i0, .string T0, .slice A0 n0 c0, .slice E0 m0 d0] 25)).alloc (.cells #[.int .i64 k1, .int .i64 i1, .string T1, .slice A1 n1 c1, .slice E1 m1 d1] 25)).alloc (.cells #[.int .i64 0, .int .i64 0, .string ⟨#[]⟩, .slice none 0 0, .slice none 0 0] 25)).heap.size = w.heap.size + 3 by simp] at this
    exact this
  have HStl := Lib.hid hal
  clear hal HSt
  have hz3 : w.heap.size + 3 < ((((w.alloc (.cells #[.int .i64 k0, .int .i64 i0, .string T0, .slice A0 n0 c0, .slice E0 m0 d0] 25)).alloc (.cells #[.int .i64 k1, .int .i64 i1, .string T1, .slice A1 n1 c1, .slice E1 m1 d1] 25)).alloc (.cells #[.int .i64 0, .int .i64 0, .string ⟨#[]⟩, .slice none 0 0, .slice none 0 0] 25)).alloc (.cells #[.int .i64 k0, .int .i64 i0, .string T0, .slice A0 n0 c0, .slice E0 m0 d0, .int .i64 k1, .int .i64 i1, .string T1, .slice A1 n1 c1, .slice E1 m1 d1] 25)).heap.size := by simp
  generalize hw4 : ((((w.alloc (.cells #[.int .i64 k0, .int .i64 i0, .string T0, .slice A0 n0 c0, .slice E0 m0 d0] 25)).alloc (.cells #[.int .i64 k1, .int .i64 i1, .string T1, .slice A1 n1 c1, .slice E1 m1 d1] 25)).alloc (.cells #[.int .i64 0, .int .i64 0, .string ⟨#[]⟩, .slice none 0 0, .slice none 0 0] 25)).alloc (.cells #[.int .i64 k0, .int .i64 i0, .string T0, .slice A0 n0 c0, .slice E0 m0 d0, .int .i64 k1, .int .i64 i1, .string T1, .slice A1 n1 c1, .slice E1 m1 d1] 25)) = w4 at *
  clear hw4
  go_loopw [7, 8, 19] (fun _ _ v19 wr => True ∧ ∃ i : Nat, i ≤ 2 ∧ v19 = .int .i64 i ∧ (1 ≤ i → Ca = 0) ∧ (2 ≤ i → Cb = 0) ∧ St3 w wr ⟨.int .i64 k0, .int .i64 i0, .string T0, .slice A0 n0 c0, .slice E0 m0 d0⟩ ⟨.int .i64 k1, .int .i64 i1, .string T1, .slice A1 n1 c1, .slice E1 m1 d1⟩ ⟨.int .i64 0, .int .i64 0, .string ⟨#[]⟩, .slice none 0 0, .slice none 0 0⟩ ∧ Blk wr (w.heap.size + 3) 25 #[.int .i64 k0, .int .i64 i0, .string T0, .slice A0 n0 c0, .slice E0 m0 d0, .int .i64 k1, .int .i64 i1, .string T1, .slice A1 n1 c1, .slice E1 m1 d1]) (fun _ _ v19 _ => 2 - (intOf v19).toNat)
  case atStart => exact ⟨trivial, 0, by omega, rfl, fun h => absurd h (by omega), fun h => absurd h (by omega), HStl.out, HRow.out⟩
  case round =>
    obtain ⟨-, i, hi, rfl, hca, hcb, hst, hrow⟩ := hrel
    have HSr := Lib.hid hst
    have HRr := Lib.hid hrow
    clear hst hrow HStl HRow hz3
    have hrl := HRr.out.lt
    have r0 := Blk.cell HRr.out 0
    have r1 := Blk.cell HRr.out 1
    have r2 := Blk.cell HRr.out 2
    have r3 := Blk.cell HRr.out 3
    have r4 := Blk.cell HRr.out 4
    have r5 := Blk.cell HRr.out 5
    have r6 := Blk.cell HRr.out 6
    have r7 := Blk.cell HRr.out 7
    have r8 := Blk.cell HRr.out 8
    have r9 := Blk.cell HRr.out 9
    simp only [List.getElem?_toArray, List.getElem?_cons_zero, List.getElem?_cons_succ] at r0 r1 r2 r3 r4 r5 r6 r7 r8 r9
    rcases (show i = 0 ∨ i = 1 ∨ i = 2 by omega) with rfl | rfl | rfl
    · rw [show ((0 : Nat) : Int) = 0 from rfl]
      clear hca hcb
      have hal := (Below.refl wr.heap.size wr).alloc (Nat.le_refl _) (.cells #[.int .i64 k0, .int .i64 i0, .string T0, .slice A0 n0 c0, .slice E0 m0 d0] 25)
      go_wp2_with fail
      refine (HCa.out _ (HSr.out.later hal).be).mono ?_
      rintro e w5 ⟨rfl, hb5⟩
      have HS5 := Lib.hid ((HSr.out.later hal).later hb5)
      have HR5 := Lib.hid (Blk.below (Blk.below HRr.out hal HRr.out.lt) hb5 (Blk.below HRr.out hal HRr.out.lt).lt)
      clear hal hb5 r0 r1 r2 r3 r4 r5 r6 r7 r8 r9 hrl HSr HRr
      by_cases hc : Ca = 0
      case neg =>
        have HR : Hid (R = .error Ca) := by have := HG.out; rw [if_pos hc] at this; exact this
        have hcb3 : (Ca != 0) = true := by simpa using hc
        obtain ⟨z0, z1, z2, z3, z4⟩ := b5_cells (v := ⟨.int .i64 0, .int .i64 0, .string ⟨#[]⟩, .slice none 0 0, .slice none 0 0⟩) HS5.out.h2
        have zf := fun k => Blk.frozen HS5.out.h2 k
        have zl := HS5.out.h2.lt
        go_wp2_with fail
        have hst := HS5.out.put2 ⟨.int .i64 0, .int .i64 0, .string ⟨#[]⟩, .slice none 0 0, .slice none 0 0⟩
        refine bodyPost_ret (v := .tuple #[.agg #[.int .i64 0, .int .i64 0, .string ⟨#[]⟩, .slice none 0 0, .slice none 0 0], .int .i64 Ca]) ?_ rfl ?_
        · obtain ⟨r0, r1, r2, r3, r4⟩ := b5_cells (v := ⟨.int .i64 0, .int .i64 0, .string ⟨#[]⟩, .slice none 0 0, .slice none 0 0⟩) hst.h2
          clear hst
          generalize World.setCell _ _ _ = W at *
          simp [results, Tryz.results14, go_sem, r0, r1, r2, r3, r4]
        · refine ⟨hst.be, ?_⟩
          rw [HR.out]
      subst hc
      have hcb3 : ((0 : Int) != 0) = false := rfl
      go_wp2_with fail
      refine ⟨⟨trivial, 1, by omega, by go_num, fun _ => by first | rfl | trivial, fun h => absurd h (by omega), HS5.out, HR5.out⟩, by simp [intOf]⟩
    · obtain rfl := (hca (by omega)).symm
      rw [show ((1 : Nat) : Int) = 1 from rfl]
      clear hcb hca
      have hal := (Below.refl wr.heap.size wr).alloc (Nat.le_refl _) (.cells #[.int .i64 k1, .int .i64 i1, .string T1, .slice A1 n1 c1, .slice E1 m1 d1] 25)
      go_wp2_with fail
      refine (HCb.out _ (HSr.out.later hal).be).mono ?_
      rintro e w5 ⟨rfl, hb5⟩
      have HS5 := Lib.hid ((HSr.out.later hal).later hb5)
      have HR5 := Lib.hid (Blk.below (Blk.below HRr.out hal HRr.out.lt) hb5 (Blk.below HRr.out hal HRr.out.lt).lt)
      clear hal hb5 r0 r1 r2 r3 r4 r5 r6 r7 r8 r9 hrl HSr HRr
      by_cases hc : Cb = 0
      case neg =>
        have HR : Hid (R = .error Cb) := by have := HG.out; rw [if_neg (by simp), if_pos hc] at this; exact this
        have hcb3 : (Cb != 0) = true := by simpa using hc
        obtain ⟨z0, z1, z2, z3, z4⟩ := b5_cells (v := ⟨.int .i64 0, .int .i64 0, .string ⟨#[]⟩, .slice none 0 0, .slice none 0 0⟩) HS5.out.h2
        have zf := fun k => Blk.frozen HS5.out.h2 k
        have zl := HS5.out.h2.lt
        go_wp2_with fail
        have hst := HS5.out.put2 ⟨.int .i64 0, .int .i64 0, .string ⟨#[]⟩, .slice none 0 0, .slice none 0 0⟩
        refine bodyPost_ret (v := .tuple #[.agg #[.int .i64 0, .int .i64 0, .string ⟨#[]⟩, .slice none 0 0, .slice none 0 0], .int .i64 Cb]) ?_ rfl ?_
        · obtain ⟨r0, r1, r2, r3, r4⟩ := b5_cells (v := ⟨.int .i64 0, .int .i64 0, .string ⟨#[]⟩, .slice none 0 0, .slice none 0 0⟩) hst.h2
          clear hst
          generalize World.setCell _ _ _ = W at *
          simp [results, Tryz.results14, go_sem, r0, r1, r2, r3, r4]
        · refine ⟨hst.be, ?_⟩
          rw [HR.out]
      subst hc
      have hcb3 : ((0 : Int) != 0) = false := rfl
      go_wp2_with fail
      refine ⟨⟨trivial, 2, by omega, by go_num, fun _ => by first | rfl | trivial, fun _ => by first | rfl | trivial, HS5.out, HR5.out⟩, by simp [intOf]⟩
    · obtain rfl := (hca (by omega)).symm
      obtain rfl := (hcb (by omega)).symm
      rw [show ((2 : Nat) : Int) = 2 from rfl]
      clear hca hcb r0 r1 r2 r3 r4 r5 r6 r7 r8 r9 hrl HRr HCa HCb
      have HR3 : Hid (R = if k0 ≠ 7 ∨ k1 ≠ 7 then .error 14 else if checkO (mergeL b.keys b.kids a) ≠ 0 then .error (checkO (mergeL b.keys b.kids a)) else .ok (mergeL b.keys b.kids a)) := by have := HG.out; rw [if_neg (by simp), if_neg (by simp)] at this; exact this
      clear HG
      obtain ⟨x0, x1, x2, x3, x4⟩ := b5_cells (v := ⟨.int .i64 k0, .int .i64 i0, .string T0, .slice A0 n0 c0, .slice E0 m0 d0⟩) HSr.out.h0
      obtain ⟨y0, y1, y2, y3, y4⟩ := b5_cells (v := ⟨.int .i64 k1, .int .i64 i1, .string T1, .slice A1 n1 c1, .slice E1 m1 d1⟩) HSr.out.h1
      dsimp only at x0 x1 x2 x3 x4 y0 y1 y2 y3 y4
      by_cases h7 : k0 = 7 ∧ k1 = 7
      case neg =>
        have HR4 : Hid (R = .error 14) := by have := HR3.out; rw [if_pos (by omega)] at this; exact this
        by_cases h0 : k0 = 7
        · have h1 : (k1 != 7) = true := by
            have : k1 ≠ 7 := fun h => h7 ⟨h0, h⟩
            simpa using this
          have h2 : (k0 != 7) = false := by simpa using h0
          clear h7 h0
          obtain ⟨z0, z1, z2, z3, z4⟩ := b5_cells (v := ⟨.int .i64 0, .int .i64 0, .string ⟨#[]⟩, .slice none 0 0, .slice none 0 0⟩) HSr.out.h2
          have zf := fun k => Blk.frozen HSr.out.h2 k
          have zl := HSr.out.h2.lt
          go_wp2_with fail
          have hst := HSr.out.put2 ⟨.int .i64 0, .int .i64 0, .string ⟨#[]⟩, .slice none 0 0, .slice none 0 0⟩
          refine bodyPost_ret (v := .tuple #[.agg #[.int .i64 0, .int .i64 0, .string ⟨#[]⟩, .slice none 0 0, .slice none 0 0], .int .i64 14]) ?_ rfl ?_
          · obtain ⟨r0, r1, r2, r3, r4⟩ := b5_cells (v := ⟨.int .i64 0, .int .i64 0, .string ⟨#[]⟩, .slice none 0 0, .slice none 0 0⟩) hst.h2
            clear hst
            generalize World.setCell _ _ _ = W at *
            simp [results, Tryz.results14, go_sem, r0, r1, r2, r3, r4]
          · refine ⟨hst.be, ?_⟩
            rw [HR4.out]
        · have h2 : (k0 != 7) = true := by simpa using h0
          clear h7 h0
          obtain ⟨z0, z1, z2, z3, z4⟩ := b5_cells (v := ⟨.int .i64 0, .int .i64 0, .string ⟨#[]⟩, .slice none 0 0, .slice none 0 0⟩) HSr.out.h2
          have zf := fun k => Blk.frozen HSr.out.h2 k
          have zl := HSr.out.h2.lt
          go_wp2_with fail
          have hst := HSr.out.put2 ⟨.int .i64 0, .int .i64 0, .string ⟨#[]⟩, .slice none 0 0, .slice none 0 0⟩
          refine bodyPost_ret (v := .tuple #[.agg #[.int .i64 0, .int .i64 0, .string ⟨#[]⟩, .slice none 0 0, .slice none 0 0], .int .i64 14]) ?_ rfl ?_
          · obtain ⟨r0, r1, r2, r3, r4⟩ := b5_cells (v := ⟨.int .i64 0, .int .i64 0, .string ⟨#[]⟩, .slice none 0 0, .slice none 0 0⟩) hst.h2
            clear hst
            generalize World.setCell _ _ _ = W at *
            simp [results, Tryz.results14, go_sem, r0, r1, r2, r3, r4]
          · refine ⟨hst.be, ?_⟩
            rw [HR4.out]
      obtain ⟨rfl, rfl⟩ := h7
      have h77 : ((7 : Int) != 7) = false := rfl
      have had := HAa.out (by first | rfl | trivial)
      have hbd := HAb.out (by first | rfl | trivial)
      obtain ⟨ha256, -, haso⟩ := had.small
      obtain ⟨hb256, hb256', -⟩ := hbd.small
      have hal := had.lens HK0.out
      have hbl := hbd.lens HK1.out
      have HBl : Hid (b.keys.length = b.kids.length) := hbl
      have hn1b : n1 ≤ 256 := by have := HN1.out; omega
      have hrs := HSr.out.h2.lt
      go_wp2_with fail
      refine (HCl.out (by first | rfl | trivial) wr HSr.out.be).mono ?_
      rintro e w5 ⟨hb5, v9, rfl, hov⟩
      have hz5 := hb5.size
      have hst5 := HSr.out.later hb5
      have HM5 : Hid (MgO w (w5.alloc (.cells #[v9.k, v9.i, v9.t, v9.ks, v9.os] 25)) w5.heap.size v9 a) := by
        obtain ⟨G, g1, g2, g3⟩ := hov.lt
        exact ⟨by omega, Blk.new w5 _ _, (g1.keep fun x _ hl => Below.heap_alloc w5 _ x hl).mono fun x hx => by have := g2 x hx; have := g3 x hx; exact ⟨by omega, by omega⟩, HK0.out, haso, hal⟩
      have HS5 : Hid (St3 w (w5.alloc (.cells #[v9.k, v9.i, v9.t, v9.ks, v9.os] 25)) ⟨.int .i64 7, .int .i64 i0, .string T0, .slice A0 n0 c0, .slice E0 m0 d0⟩ ⟨.int .i64 7, .int .i64 i1, .string T1, .slice A1 n1 c1, .slice E1 m1 d1⟩ ⟨.int .i64 0, .int .i64 0, .string ⟨#[]⟩, .slice none 0 0, .slice none 0 0⟩) := hst5.later ((Below.refl _ _).alloc (Nat.le_refl _) _)
      clear y0 y1 y2 y3 y4
      obtain ⟨y0, y1, y2, y3, y4⟩ := b5_cells (v := ⟨.int .i64 7, .int .i64 i1, .string T1, .slice A1 n1 c1, .slice E1 m1 d1⟩) hst5.h1
      have z1 := hst5.h1.lt
      have HU9 : Hid (v9.val = .agg #[v9.k, v9.i, v9.t, v9.ks, v9.os]) := rfl
      obtain ⟨kv9, dv9, us9, rfl, s1, s2, -, -⟩ := hov.objV.open_
      obtain ⟨A9, c9, rfl⟩ := s1.form
      obtain ⟨E9, d9, rfl⟩ := s2.form
      have hla : (a.keys.length : Nat) ≤ 256 + 0 := by omega
      generalize hM : mergeL b.keys b.kids a = M at *
      have HM0 := Lib.hid hM
      clear hM hov s1 s2 hst5 hb5 x0 x1 x2 x3 x4 had hbd ha256 haso hb256 hb256' hal hbl HSr HCl HAa HAb h77
      unfold V5.val
      dsimp only at HM5 HS5 y0 y1 y2 y3 y4 ⊢
      rw [show (strs a.keys).length = a.keys.length by simp [strs]] at HM5 HS5 ⊢
      generalize hna : a.keys.length = na at HM5 HS5 hla ⊢
      generalize a.kids.length = ma at HM5 HS5 ⊢
      generalize a.kind = ka at HM5 HS5 ⊢
      generalize a.int = ia at HM5 HS5 ⊢
      generalize (⟨a.text.toArray⟩ : ByteArray) = Ta at HM5 HS5 ⊢
      go_wp2_with fail
      have HLo : Hid (w.heap.size + 3 ≤ w5.heap.size) := HM5.out.lo
      generalize hw6 : w5.alloc (.cells #[.int .i64 ka, .int .i64 ia, .string Ta, .slice A9 na c9, .slice E9 ma d9] 25) = w6 at *
      generalize w5.heap.size = bo at *
      clear hw6 y0 y1 y2 y3 y4 z1 hz5 hrs HU9
      have hn0' : (0 : Int) ≤ (n1 : Int) := by omega
      go_loopw [10, 11, 12, 13, 44] (fun _ _ _ _ v44 wr => True ∧ ∃ (j : Nat) (vo : V5) (out : Ox), j ≤ n1 ∧ v44 = .int .i64 j ∧ MgO w wr bo vo out ∧ out.keys.length ≤ 256 + j ∧ St3 w wr ⟨.int .i64 7, .int .i64 i0, .string T0, .slice A0 n0 c0, .slice E0 m0 d0⟩ ⟨.int .i64 7, .int .i64 i1, .string T1, .slice A1 n1 c1, .slice E1 m1 d1⟩ ⟨.int .i64 0, .int .i64 0, .string ⟨#[]⟩, .slice none 0 0, .slice none 0 0⟩ ∧ mergeL (b.keys.drop j) (b.kids.drop j) out = M) (fun _ _ _ _ v44 _ => n1 - (intOf v44).toNat)
      case atStart => exact ⟨trivial, 0, _, a, Nat.zero_le _, rfl, HM5.out, by omega, HS5.out, HM0.out⟩
      case round =>
        obtain ⟨-, j, vo, out, hj, rfl, hm, hle, hst, hmg⟩ := hrel
        have HMr := Lib.hid hm
        have HSr := Lib.hid hst
        have HMg := Lib.hid hmg
        clear hm hst hmg HM5 HS5 HM0
        by_cases hlt : j < n1
        · have hla : (j : Int) < (n1 : Int) := by omega
          have hjk : j < b.keys.length := by have := HN1.out; omega
          have hjd : j < b.kids.length := by have := HBl.out; omega
          have hju : j < us1.length := by have := HUl.out; have := HM1.out; omega
          obtain ⟨pb, po, rfl, hpb, hpcell⟩ := HS1.out.plainA (by simp [strs]; omega)
          have hcs := hpcell j (.string ⟨(b.keys[j]'hjk).toArray⟩) (by simp [strs, hjk])
          have hcs2 := (HSr.out.be.cell (p := ⟨pb, po + j, none⟩) hpb).trans hcs
          have hstep := merge_step (out := out) hjk hjd
          have HMg2 : Hid (mergeL (b.keys.drop (j + 1)) (b.kids.drop (j + 1)) (putD out b.keys[j] b.kids[j]) = M) := hstep.symm.trans HMg.out
          obtain ⟨kv, dv, vs, Fs, rfl, hP⟩ := HMr.out.ed.own.opn
          obtain ⟨Ak, ck, rfl⟩ := own_form hP.hk
          obtain ⟨x0, x1, x2, x3, x4⟩ := b5_cells HMr.out.blk
          have xl := HMr.out.blk.lt
          dsimp only at x0 x1 x2 x3 x4
          have hkeq : b.kids.getD j Ox.zero = b.kids[j] := by rw [List.getD_eq_getElem?_getD, List.getElem?_eq_getElem hjd]; rfl
          have hkj := HKid.out (by first | rfl | trivial) j hju
          rw [hkeq] at hkj
          have HKj := Lib.hid hkj
          have HBs : Hid (∀ k : Tk.Src, Calls Tryz.prog 29 #[.slice Ak out.keys.length ck, .string ⟨k.toArray⟩] wr fun e w' => e = .returned (.tuple #[.int .i64 ((posK out.keys k).1 : Nat), .bool (posK out.keys k).2]) ∧ Same wr w') := fun k => bs_any out.keys k _ _ wr (Sl.of_own hP.hk) (by omega) HMr.out.so
          have hjc : us1[j]'hju = us1[j]'hju := rfl
          clear hpcell hcs hstep hkeq hkj hP hjc
          generalize b.keys[j]'hjk = kk at *
          generalize hVV : b.kids[j]'hjd = VV at *
          have HBk := Lib.hid (HBs.out kk)
          clear HBs HMg
          go_wp2_with fail
          refine HBk.out.mono ?_
          rintro e w7 ⟨rfl, q, rfl⟩
          have hbq : Below wr.heap.size wr (wr.drewN q) := ⟨rfl, rfl, rfl, Nat.le_refl _, fun _ _ => rfl⟩
          have HM7 := Lib.hid (HMr.out.later hbq)
          have HS7 := Lib.hid (HSr.out.later hbq)
          have hcs7 := (hbq.cell (p := ⟨pb, po + j, none⟩) (Nat.lt_of_lt_of_le hpb HSr.out.be.size)).trans hcs2
          have hx0 : (wr.drewN q).cell? ⟨bo, 0, none⟩ = some (.int .i64 out.kind) := x0
          have hx1 : (wr.drewN q).cell? ⟨bo, 1, none⟩ = some (.int .i64 out.int) := x1
          have hx2 : (wr.drewN q).cell? ⟨bo, 2, none⟩ = some (.string ⟨out.text.toArray⟩) := x2
          have hx3 : (wr.drewN q).cell? ⟨bo, 3, none⟩ = some (.slice Ak out.keys.length ck) := x3
          have hx4 : (wr.drewN q).cell? ⟨bo, 4, none⟩ = some dv := x4
          have hxl : bo < (wr.drewN q).heap.size := xl
          clear x0 x1 x2 x3 x4 xl hcs2 HMr HSr hbq HBk
          generalize hw7 : wr.drewN q = w7 at *
          clear hw7
          have hpl := pos_le out.keys kk
          have HLl := Lib.hid HM7.out.len
          have HPut : Hid (∀ o', o' = putD out kk VV → mergeL (b.keys.drop (j + 1)) (b.kids.drop (j + 1)) o' = M) := fun o' e => by rw [e]; exact HMg2.out
          have HPd : Hid ((posK out.keys kk).2 = true → putD out kk VV = out.withKids out.keys (out.kids.set (posK out.keys kk).1 VV)) := put_found
          have HPn : Hid ((posK out.keys kk).2 = false → putD out kk VV = (out.withKids (out.keys.insertIdx (posK out.keys kk).1 kk) (out.kids.insertIdx (posK out.keys kk).1 Ox.zero)).withKids (out.keys.insertIdx (posK out.keys kk).1 kk) ((out.kids.insertIdx (posK out.keys kk).1 Ox.zero).set (posK out.keys kk).1 VV)) := fun h => put_new h HLl.out
          have HFd : Hid ((posK out.keys kk).2 = true → (posK out.keys kk).1 < out.keys.length) := fun h => ((pos_found out.keys kk).1 h).1
          have HSo : Hid ((posK out.keys kk).2 = false → Sorted (out.keys.insertIdx (posK out.keys kk).1 kk)) := fun h => sorted_ins _ _ HM7.out.so h
          generalize hpos : posK out.keys kk = pp at *
          obtain ⟨p, f⟩ := pp
          dsimp only at hpl HPd HPn HFd HSo ⊢
          clear hpos HMg2
          go_upto_if 57 with (fail)
          go_cut [] (fun wx => ∃ (v' : V5) (out' : Ox), MgO w wx bo v' out' ∧ St3 w wx ⟨.int .i64 7, .int .i64 i0, .string T0, .slice A0 n0 c0, .slice E0 m0 d0⟩ ⟨.int .i64 7, .int .i64 i1, .string T1, .slice (some ⟨pb, po, none⟩) n1 c1, .slice E1 m1 d1⟩ ⟨.int .i64 0, .int .i64 0, .string ⟨#[]⟩, .slice none 0 0, .slice none 0 0⟩ ∧ p < out'.kids.length ∧ out'.keys.length ≤ 256 + (j + 1) ∧ out'.withKids out'.keys (out'.kids.set p VV) = putD out kk VV)
          case first =>
            cases f with
            | true =>
              have hfd := HFd.out (by first | rfl | trivial)
              have hll := HLl.out
              go_wp2_with fail
              go_meet
              exact ⟨_, out, HM7.out, HS7.out, by omega, by omega, (HPd.out (by first | rfl | trivial)).symm⟩
            | false =>
              obtain ⟨kv7, dv7, vs7, Fs7, e7, hP7⟩ := HM7.out.ed.own.opn
              injection e7 with _ _ _ e74 e75
              subst e74; subst e75
              have hdf := own_form hP7.hd
              obtain ⟨HInsS, HStp, HIns, hFin⟩ := ins_prep out Ox.zero _ _ vs7 Fs7 ⟨.int .i64 0, .int .i64 0, .string ⟨#[]⟩, .slice none 0 0, .slice none 0 0⟩ bo 0 p _ _ (MgF w w7 bo) (fun _ => False) kk w7 HM7.out.ed hP7 (fun _ h => h.elim) (zero_own w7) (by have := HLl.out; omega) HLl.out (by have := HLl.out; omega)
              simp only [Nat.zero_add] at HInsS HStp HIns hFin
              obtain ⟨Ed, cd, rfl⟩ := hdf
              have hbk : Blk w7 bo 25 #[.int .i64 out.kind, .int .i64 out.int, .string ⟨out.text.toArray⟩, .slice Ak out.keys.length ck, .slice Ed out.kids.length cd] := HM7.out.blk
              have HBk7 := Lib.hid hbk
              have HOut : Hid (∀ w', EdPost (.ok (out.withKids (out.keys.insertIdx p kk) (out.kids.insertIdx p Ox.zero))) w7 bo 0 #[.int .i64 out.kind, .int .i64 out.int, .string ⟨out.text.toArray⟩, .slice Ak out.keys.length ck, .slice Ed out.kids.length cd] 25 (MgF w w7 bo) (fun _ => False) (.returned (.int .i64 0)) w' →
                  ∃ (v' : V5) (out' : Ox), MgO w w' bo v' out' ∧ St3 w w' ⟨.int .i64 7, .int .i64 i0, .string T0, .slice A0 n0 c0, .slice E0 m0 d0⟩ ⟨.int .i64 7, .int .i64 i1, .string T1, .slice (some ⟨pb, po, none⟩) n1 c1, .slice E1 m1 d1⟩ ⟨.int .i64 0, .int .i64 0, .string ⟨#[]⟩, .slice none 0 0, .slice none 0 0⟩ ∧ p < out'.kids.length ∧ out'.keys.length ≤ 256 + (j + 1) ∧ out'.withKids out'.keys (out'.kids.set p VV) = putD out kk VV) := fun w' hp => by
                have hll := HLl.out
                have hkl := ins_len out.kids p Ox.zero (by omega)
                have hyl := ins_len out.keys p kk (by omega)
                obtain ⟨v', hm⟩ := MgO.of (u := ⟨.int .i64 out.kind, .int .i64 out.int, .string ⟨out.text.toArray⟩, .slice Ak out.keys.length ck, .slice Ed out.kids.length cd⟩) (w := w) (wr := w7) (wq := w7) HM7.out.lo hxl hp (fun _ h => h.elim) HM7.out.k7 (HSo.out (by first | rfl | trivial)) (by rw [with_keys, with_kids, hkl, hyl, hll])
                have hlo := HM7.out.lo
                refine ⟨v', _, hm, HS7.out.frs hp.1 (fun k hk => by rcases hk with rfl | hk; exact hlo; exact hk.1.1), by rw [with_kids, hkl]; omega, by rw [with_keys, hyl]; omega, ?_⟩
                rw [HPn.out (by first | rfl | trivial)]
                rfl
              have hdb : (Value.slice Ed out.kids.length cd).ownBlock ≠ some bo := fun e => HM7.out.ed.far (hP7.fd bo e)
              have HDb := Lib.hid hdb
              clear hbk hP7 hdb HPd HPn HFd HSo hx0 hx1 hx2
              go_wp2_with fail
              have hW : FrS w7.heap.size (fun _ => False) w7 (w7.alloc (.cells #[.string ⟨kk.toArray⟩] 9)) := (FrS.refl _ _ _).alloc (Nat.le_refl _) _
              refine (HInsS.out _ (Blk.new w7 _ _) (fun x hx => hW.block x hx fun h => h)).mono ?_
              rintro e w8 ⟨kv', rfl, ho2, hf2, hv2⟩
              obtain ⟨hfa, hb2, hb3⟩ := HStp.out _ w8 kv' hW hf2
              have HFn := Lib.hid (hFin.out _ w8 kv' hW ho2 hf2 hv2)
              have rl := hb2.lt
              have rf := Blk.frozen hb2 3
              have r3 := Blk.cell hb2 3
              simp only [List.getElem?_toArray, List.getElem?_cons_zero, List.getElem?_cons_succ] at r3
              have HIns3 := Lib.hid (fun W => HIns.out (w8.setCell ⟨bo, 3, none⟩ kv') W hfa)
              obtain ⟨Ak', ck', rfl⟩ := own_form ho2
              have HB3 := Lib.hid hb3
              clear hW ho2 hf2 hv2 hfa hb2 hb3 hFin HIns HInsS HStp hx3 hx4
              go_upto_region 17 with (fail)
              have hb9 : Blk (w8.setCell ⟨bo, 3, none⟩ (.slice Ak' (out.keys.length + 1) ck')) bo 25 #[.int .i64 out.kind, .int .i64 out.int, .string ⟨out.text.toArray⟩, .slice Ak' (out.keys.length + 1) ck', .slice Ed out.kids.length cd] := HB3.out
              clear rl rf r3 HB3
              generalize w8.setCell ⟨bo, 3, none⟩ (.slice Ak' (out.keys.length + 1) ck') = w9 at *
              have y4 := Blk.cell hb9 4
              simp only [List.getElem?_toArray, List.getElem?_cons_zero, List.getElem?_cons_succ] at y4
              have yl := hb9.lt
              have HB9 := Lib.hid hb9
              clear hb9
              go_wp2_with fail
              have hW : FrS w9.heap.size (fun _ => False) w9 (w9.alloc (.cells #[.int .i64 0, .int .i64 0, .string ⟨#[]⟩, .slice none 0 0, .slice none 0 0] 25)) := (FrS.refl _ _ _).alloc (Nat.le_refl _) _
              refine (HIns3.out _ (Blk.new w9 _ _) (fun x hx => hW.block x hx fun h => h)).mono ?_
              rintro e w10 ⟨dv', rfl, ho4, hf4, hv4⟩
              have hend := HOut.out _ (HFn.out _ w10 dv' hW ho4 hf4 hv4)
              have hbW := hW.blk HB9.out yl fun h => h
              have hb10 := hf4.blk hbW hbW.lt HDb.out
              have rl := hb10.lt
              have rf := Blk.frozen hb10 4
              have r4 := Blk.cell hb10 4
              simp only [List.getElem?_toArray, List.getElem?_cons_zero, List.getElem?_cons_succ] at r4
              obtain ⟨Ed', cd', rfl⟩ := own_form ho4
              have HEnd := Lib.hid hend
              clear hW ho4 hf4 hv4 hend hbW hb10 y4 yl HB9 HIns3 HFn HOut
              go_wp2_with fail
              go_meet
              exact HEnd.out
          case rest =>
            obtain ⟨v8, out8, hm8, hs8, hp8, hl8, hput8⟩ := hcut
            have HPut8 := Lib.hid hput8
            have HM8 := Lib.hid hm8
            have HS8 := Lib.hid hs8
            clear hm8 hs8 hput8 HPd HPn HFd HSo hx0 hx1 hx2 hx3 hx4 hxl HM7 HS7 hcs7
            obtain ⟨kv8, dv8, vs8, Fs8, rfl, hP8⟩ := HM8.out.ed.own.opn
            have hpv : p < vs8.length := by rw [hP8.hl]; exact hp8
            obtain ⟨g8, cap8, cur8, rfl, hnc8, hcm8, hFg8, hgl8, hk8⟩ := hP8.kid hp8 hpv
            have hd8 := own_form hP8.hk
            obtain ⟨Ak8, ck8, rfl⟩ := hd8
            unfold maxLen at hcm8
            have hs2 : SlM w (fun k => k < w.heap.size) (.slice E1 m1 d1) us1.length (v5cs us1) := by rw [HUl.out]; exact HS2.out
            obtain ⟨qb, qo, rfl, -, hqb, hqcell⟩ := v5_at hs2 (by omega)
            have hqc := hqcell j hju
            have HKw := Lib.hid (fun W hW => (HKj.out W hW).2)
            have hov := (HKj.out wc HS8.out.be).1
            clear hqcell hs2 HKj
            generalize us1[j]'hju = uj at *
            obtain ⟨kvj, dvj, usj, rfl, s1, s2, -, -⟩ := hov.open_
            obtain ⟨Aj, cj, rfl⟩ := s1.form
            obtain ⟨Ej, dj, rfl⟩ := s2.form
            clear hov s1 s2
            unfold V5.val at HKw
            dsimp only at hqc HKw
            generalize (strs VV.keys).length = nj at *
            generalize VV.kids.length = mj at *
            generalize VV.kind = kj at *
            generalize VV.int = ij at *
            generalize (⟨VV.text.toArray⟩ : ByteArray) = Tj at *
            obtain ⟨q0, q1, q2, q3, q4⟩ := hqc
            have hbw := HS8.out.be
            have x4 : wc.cell? ⟨bo, 4, none⟩ = some (.slice (some ⟨g8, 0, none⟩) out8.kids.length cap8) := by have := Blk.cell HM8.out.blk 4; simpa using this
            have x5 : wc.cell? ⟨w.heap.size + 1, 4, none⟩ = some (.slice (some ⟨qb, qo, none⟩) m1 d1) := by have := Blk.cell HS8.out.h1 4; simpa using this
            have hbl8 := HM8.out.blk.lt
            have hsl8 := HS8.out.h1.lt
            have HSS : Hid (∀ W, Below wc.heap.size wc W → (W.cell? ⟨bo, 4, none⟩ = some (.slice (some ⟨g8, 0, none⟩) out8.kids.length cap8) ∧ W.cell? ⟨w.heap.size + 1, 4, none⟩ = some (.slice (some ⟨qb, qo, none⟩) m1 d1) ∧ W.cell? ⟨qb, qo + j * 5, none⟩ = some (.int .i64 kj) ∧ W.cell? ⟨qb, qo + j * 5 + 1, none⟩ = some (.int .i64 ij) ∧ W.cell? ⟨qb, qo + j * 5 + 2, none⟩ = some (.string Tj) ∧ W.cell? ⟨qb, qo + j * 5 + 3, none⟩ = some (.slice Aj nj cj) ∧ W.cell? ⟨qb, qo + j * 5 + 4, none⟩ = some (.slice Ej mj dj))) := fun W hW =>
              ⟨(hW.cell (p := ⟨bo, 4, none⟩) hbl8).trans x4, (hW.cell (p := ⟨w.heap.size + 1, 4, none⟩) hsl8).trans x5,
               ((hbw.trans (hW.mono hbw.size)).cell (p := ⟨qb, qo + j * 5, none⟩) hqb).trans q0, ((hbw.trans (hW.mono hbw.size)).cell (p := ⟨qb, qo + j * 5 + 1, none⟩) hqb).trans q1, ((hbw.trans (hW.mono hbw.size)).cell (p := ⟨qb, qo + j * 5 + 2, none⟩) hqb).trans q2, ((hbw.trans (hW.mono hbw.size)).cell (p := ⟨qb, qo + j * 5 + 3, none⟩) hqb).trans q3, ((hbw.trans (hW.mono hbw.size)).cell (p := ⟨qb, qo + j * 5 + 4, none⟩) hqb).trans q4⟩
            have HBw := Lib.hid hbw
            have hpi : (p : Int) < (out8.kids.length : Int) := by omega
            have hji : (j : Int) < (m1 : Int) := by have := HUl.out; omega
            have hdr := (Below.refl wc.heap.size wc).drew
            have hS0 := HSS.out wc.drew hdr
            have HP8 := Lib.hid hP8
            have HK8 := Lib.hid hk8
            clear hP8 hk8 q0 q1 q2 q3 q4 x4 x5 hbw
            go_upto_region 18 with (fail)
            refine wp_region_tail (fun W => (W.cell? ⟨bo, 4, none⟩ = some (.slice (some ⟨g8, 0, none⟩) out8.kids.length cap8) ∧ W.cell? ⟨w.heap.size + 1, 4, none⟩ = some (.slice (some ⟨qb, qo, none⟩) m1 d1) ∧ W.cell? ⟨qb, qo + j * 5, none⟩ = some (.int .i64 kj) ∧ W.cell? ⟨qb, qo + j * 5 + 1, none⟩ = some (.int .i64 ij) ∧ W.cell? ⟨qb, qo + j * 5 + 2, none⟩ = some (.string Tj) ∧ W.cell? ⟨qb, qo + j * 5 + 3, none⟩ = some (.slice Aj nj cj) ∧ W.cell? ⟨qb, qo + j * 5 + 4, none⟩ = some (.slice Ej mj dj))) 10 (by kernel_rfl) (by kernel_rfl) hS0 (fun hHeld => ?_)
            refine wpAnyD_take 0 (v := ?_) rfl (by kernel_rfl) (by kernel_rfl) (by kernel_rfl) (fun _ _ _ h => h) hHeld (Or.inl ⟨by rfl, ?_⟩) ?_
            rotate_left
            · intro w' hw'; obtain ⟨a4, a5, x0, x1, x2, x3, x4⟩ := hw'; go_simp; try with_reducible rfl
            try simp only [Act.put, List.setIfInBounds_toArray, List.set_cons_zero, List.set_cons_succ]
            refine wpAnyD_take 1 (v := ?_) rfl (by kernel_rfl) (by kernel_rfl) (by kernel_rfl) (fun _ _ _ h => h) hHeld (Or.inl ⟨by rfl, ?_⟩) ?_
            rotate_left
            · intro w' hw'; obtain ⟨a4, a5, x0, x1, x2, x3, x4⟩ := hw'; go_simp; try with_reducible rfl
            try simp only [Act.put, List.setIfInBounds_toArray, List.set_cons_zero, List.set_cons_succ]
            refine wpAnyD_take 2 (v := ?_) rfl (by kernel_rfl) (by kernel_rfl) (by kernel_rfl) (fun _ _ _ h => h) hHeld (Or.inl ⟨by rfl, ?_⟩) ?_
            rotate_left
            · intro w' hw'; obtain ⟨a4, a5, x0, x1, x2, x3, x4⟩ := hw'; go_simp; try with_reducible rfl
            try simp only [Act.put, List.setIfInBounds_toArray, List.set_cons_zero, List.set_cons_succ]
            refine wpAnyD_take 3 (v := ?_) rfl (by kernel_rfl) (by kernel_rfl) (by kernel_rfl) (fun _ _ _ h => h) hHeld (Or.inl ⟨by rfl, ?_⟩) ?_
            rotate_left
            · intro w' hw'; obtain ⟨a4, a5, x0, x1, x2, x3, x4⟩ := hw'; go_simp; try with_reducible rfl
            try simp only [Act.put, List.setIfInBounds_toArray, List.set_cons_zero, List.set_cons_succ]
            refine wpAnyD_take 4 (v := ?_) rfl (by kernel_rfl) (by kernel_rfl) (by kernel_rfl) (fun _ _ _ h => h) hHeld (Or.inl ⟨by rfl, ?_⟩) ?_
            rotate_left
            · intro w' hw'; obtain ⟨a4, a5, x0, x1, x2, x3, x4⟩ := hw'; go_simp; try with_reducible rfl
            try simp only [Act.put, List.setIfInBounds_toArray, List.set_cons_zero, List.set_cons_succ]
            refine wpAnyD_take 5 (v := ?_) rfl (by kernel_rfl) (by kernel_rfl) (by kernel_rfl) (fun _ _ _ h => h) hHeld (Or.inl ⟨by rfl, ?_⟩) ?_
            rotate_left
            · intro w' hw'; obtain ⟨a4, a5, x0, x1, x2, x3, x4⟩ := hw'; go_simp; try with_reducible rfl
            try simp only [Act.put, List.setIfInBounds_toArray, List.set_cons_zero, List.set_cons_succ]
            refine wpAnyD_take 6 (v := ?_) rfl (by kernel_rfl) (by kernel_rfl) (by kernel_rfl) (fun _ _ _ h => h) hHeld (Or.inl ⟨by rfl, ?_⟩) ?_
            rotate_left
            · intro w' hw'; obtain ⟨a4, a5, x0, x1, x2, x3, x4⟩ := hw'; go_simp; try with_reducible rfl
            try simp only [Act.put, List.setIfInBounds_toArray, List.set_cons_zero, List.set_cons_succ]
            refine wpAnyD_take 7 (v := ?_) rfl (by kernel_rfl) (by kernel_rfl) (by kernel_rfl) (fun _ _ _ h => h) hHeld (Or.inl ⟨by rfl, ?_⟩) ?_
            rotate_left
            · intro w' hw'; obtain ⟨a4, a5, x0, x1, x2, x3, x4⟩ := hw'; go_simp; try with_reducible rfl
            try simp only [Act.put, List.setIfInBounds_toArray, List.set_cons_zero, List.set_cons_succ]
            refine wpAnyD_ready [8] (by kernel_rfl) ?_
            refine AllReadyD.cons rfl (fun K hK => ?_) AllReadyD.nil
            go_simp
            refine (HKw.out _ (HBw.out.trans (hdr.mono HBw.out.size))).mono ?_
            rintro e w9 ⟨hb9, u9, rfl, hou⟩
            have hbr9 : Below wc.heap.size wc w9 := hdr.trans hb9
            have hov : OwnO w9 u9 VV (fun x => wc.heap.size ≤ x) := hou
            have hed9 := HM8.out.ed.later hbr9
            obtain ⟨kvx, dvx, vsx, Fsx, ex, hPx⟩ := hed9.own.opn
            injection ex with _ _ _ ex4 ex5
            subst ex4; subst ex5
            have hput := EdPost.putKid hed9 hPx hp8 (HK8.out.later hbr9).blk (fun x hx => ⟨fun hm => by have := hm.2; omega, by omega⟩) hov (Below.refl _ _)
            rw [HPut8.out] at hput
            have hput2 := hput
            rw [← HPut8.out] at hput2
            have hs9 := hbr9.size
            have hlo8 := HM8.out.lo
            obtain ⟨vN, hmN⟩ := MgO.of (u := ⟨.int .i64 out8.kind, .int .i64 out8.int, .string ⟨out8.text.toArray⟩, .slice Ak8 out8.keys.length ck8, .slice (some ⟨g8, 0, none⟩) out8.kids.length cap8⟩) (w := w) (wr := wc) (wq := w9) hlo8 (by omega) hput2 (fun x hx => ⟨by have := HS8.out.h2.lt; omega, by omega⟩) HM8.out.k7 HM8.out.so (by rw [with_keys, with_kids, List.length_set]; exact HM8.out.len)
            rw [HPut8.out] at hmN
            have HMN := Lib.hid hmN
            have HSN := Lib.hid ((HS8.out.later hbr9).frs hput.1 (fun k hk => by rcases hk with rfl | hk; exact hlo8; exact hk.1.1))
            have hkl : (putD out kk VV).keys.length ≤ 256 + (j + 1) := by rw [← HPut8.out, with_keys]; exact hl8
            have HKl := Lib.hid hkl
            have HMgN := Lib.hid (HPut.out _ rfl)
            have hsl9 := HSS.out w9 hbr9
            have f0 : ∀ k, w9.frozen? ⟨g8, k, none⟩ = false := fun k => (hbr9.frozen (p := ⟨g8, k, none⟩) hgl8).trans (Blk.frozen HK8.out.blk k)
            obtain ⟨y0, y1, y2, y3, y4⟩ := (HK8.out.later hbr9).cells
            have yl : g8 < w9.heap.size := by omega
            obtain ⟨kvn, dvn, usn, rfl, s1, s2, -, -⟩ := hov.objV.open_
            obtain ⟨An, cn, rfl⟩ := s1.form
            obtain ⟨En, dn, rfl⟩ := s2.form
            clear hov s1 s2 hou hed9 hPx hput hput2 hmN hkl HPut8 HPut HM8 HS8 HKw HBw HSS
            unfold V5.val
            dsimp only at HMN HSN ⊢
            generalize (strs VV.keys).length = nn at *
            generalize VV.kids.length = mn at *
            generalize VV.kind = kn at *
            generalize VV.int = in_ at *
            generalize (⟨VV.text.toArray⟩ : ByteArray) = Tn at *
            refine hK.out _ _ hsl9 (fun hHeld => ?_)
            refine wpAnyD_take 9 (v := ?_) rfl (by kernel_rfl) (by kernel_rfl) (by kernel_rfl) (fun _ _ _ h => h) hHeld (Or.inl ⟨by rfl, ?_⟩) ?_
            rotate_left
            · intro w' hw'; obtain ⟨a4, a5, x0, x1, x2, x3, x4⟩ := hw'; go_simp; try with_reducible rfl
            try simp only [Act.put, List.setIfInBounds_toArray, List.set_cons_zero, List.set_cons_succ]
            refine wpAnyD_done (by kernel_rfl) ?_
            simp only [List.drop_succ_cons, List.drop_zero]
            clear hHeld hK hS0 hsl9 hb9 hbr9 HK8 HP8 hdr
            go_wp2_with fail
            refine ⟨⟨trivial, j + 1, vN, putD out kk VV, by omega, by go_num, HMN.out, HKl.out, HSN.out, HMgN.out⟩, by simp [intOf]; omega⟩
        · obtain rfl : j = n1 := by omega
          have hom : out = M := by
            have h1 := HMg.out
            rw [List.drop_of_length_le (by have := HN1.out; omega)] at h1
            exact h1
          subst hom
          have HR5 : Hid (R = if checkO out ≠ 0 then .error (checkO out) else .ok out) := by have := HR3.out; rw [if_neg (by simp)] at this; exact this
          have hov := HMr.out.own
          have HC := Lib.hid (HC9.out wr vo out _ HSr.out.be HMr.out.own)
          have HO := Lib.hid (HMr.out.own.lt)
          have hbm := HMr.out.blk
          have hlo := HMr.out.lo
          obtain ⟨kv7, dv7, us7, rfl, s1, s2, -, -⟩ := hov.objV.open_
          obtain ⟨A7, c7, rfl⟩ := s1.form
          obtain ⟨E7, d7, rfl⟩ := s2.form
          clear hov s1 s2 HMr HR3
          unfold V5.val at HC
          dsimp only at HC hbm HO
          generalize hz7 : (⟨.int .i64 out.kind, .int .i64 out.int, .string ⟨out.text.toArray⟩, .slice A7 (strs out.keys).length c7, .slice E7 out.kids.length d7⟩ : V5) = u7 at HO
          have HU7 := Lib.hid hz7
          clear hz7
          have hko : out.keys.length = out.keys.length := rfl
          clear hko HMg hle
          generalize hcp : checkO out = c at *
          generalize (strs out.keys).length = n7 at *
          generalize out.kids.length = m7 at *
          generalize out.kind = k7 at *
          generalize out.int = i7 at *
          generalize (⟨out.text.toArray⟩ : ByteArray) = T7 at *
          clear hcp
          have HBm := Lib.hid hbm
          obtain ⟨y0, y1, y2, y3, y4⟩ := b5_cells (v := ⟨.int .i64 k7, .int .i64 i7, .string T7, .slice A7 n7 c7, .slice E7 m7 d7⟩) HBm.out
          dsimp only at y0 y1 y2 y3 y4
          clear hbm
          go_wp2_with fail
          refine HC.out.mono ?_
          rintro e w8 ⟨rfl, hb8⟩
          have HS8 := Lib.hid (HSr.out.later hb8)
          have HB8 := Lib.hid (HBm.out.below hb8 HBm.out.lt)
          have HO8 : Hid (OwnO w8 u7 out (fun x => w.heap.size + 3 ≤ x)) := by
            obtain ⟨G, g1, g2, g3⟩ := HO.out
            exact (g1.keep fun x _ hl => hb8.block x hl).mono fun x hx => (g2 x hx).1
          clear hb8 HC HO HBm HSr y0 y1 y2 y3 y4
          by_cases hc : c = 0
          case neg =>
            have HR6 : Hid (R = .error c) := by have := HR5.out; rw [if_pos hc] at this; exact this
            have hcb3 : (c != 0) = true := by simpa using hc
            obtain ⟨z0, z1, z2, z3, z4⟩ := b5_cells (v := ⟨.int .i64 0, .int .i64 0, .string ⟨#[]⟩, .slice none 0 0, .slice none 0 0⟩) HS8.out.h2
            have zf := fun k => Blk.frozen HS8.out.h2 k
            have zl := HS8.out.h2.lt
            go_wp2_with fail
            have hst := HS8.out.put2 ⟨.int .i64 0, .int .i64 0, .string ⟨#[]⟩, .slice none 0 0, .slice none 0 0⟩
            refine bodyPost_ret (v := .tuple #[.agg #[.int .i64 0, .int .i64 0, .string ⟨#[]⟩, .slice none 0 0, .slice none 0 0], .int .i64 c]) ?_ rfl ?_
            · obtain ⟨r0, r1, r2, r3, r4⟩ := b5_cells (v := ⟨.int .i64 0, .int .i64 0, .string ⟨#[]⟩, .slice none 0 0, .slice none 0 0⟩) hst.h2
              clear hst
              generalize World.setCell _ _ _ = W at *
              simp [results, Tryz.results14, go_sem, r0, r1, r2, r3, r4]
            · refine ⟨hst.be, ?_⟩
              rw [HR6.out]
          subst hc
          have hcb3 : ((0 : Int) != 0) = false := rfl
          have HR6 : Hid (R = .ok out) := by have := HR5.out; rw [if_neg (by simp)] at this; exact this
          obtain ⟨y0, y1, y2, y3, y4⟩ := b5_cells (v := ⟨.int .i64 k7, .int .i64 i7, .string T7, .slice A7 n7 c7, .slice E7 m7 d7⟩) HB8.out
          dsimp only at y0 y1 y2 y3 y4
          obtain ⟨z0, z1, z2, z3, z4⟩ := b5_cells (v := ⟨.int .i64 0, .int .i64 0, .string ⟨#[]⟩, .slice none 0 0, .slice none 0 0⟩) HS8.out.h2
          have zf := fun k => Blk.frozen HS8.out.h2 k
          have zl := HS8.out.h2.lt
          go_wp2_with fail
          have hst := HS8.out.put2 ⟨.int .i64 k7, .int .i64 i7, .string T7, .slice A7 n7 c7, .slice E7 m7 d7⟩
          have hfw := b5_frs' (R := w8.heap.size) (T := fun k => k = w.heap.size + 2) (FrS.refl _ _ w8) rfl ⟨.int .i64 k7, .int .i64 i7, .string T7, .slice A7 n7 c7, .slice E7 m7 d7⟩
          refine bodyPost_ret (v := .tuple #[.agg #[.int .i64 k7, .int .i64 i7, .string T7, .slice A7 n7 c7, .slice E7 m7 d7], .int .i64 0]) ?_ rfl ?_
          · obtain ⟨r0, r1, r2, r3, r4⟩ := b5_cells (v := ⟨.int .i64 k7, .int .i64 i7, .string T7, .slice A7 n7 c7, .slice E7 m7 d7⟩) hst.h2
            clear hst hfw
            generalize World.setCell _ _ _ = W at *
            simp [results, Tryz.results14, go_sem, r0, r1, r2, r3, r4]
          · refine ⟨hst.be, ?_⟩
            rw [HR6.out]
            have ho := (HO8.out.keep fun x hx hl => hfw.block x hl (by omega)).mono (G := fun x => w.heap.size ≤ x) fun x hx => by omega
            rw [← HU7.out] at ho
            exact ⟨_, rfl, ho⟩
end Go.Proofs.YthbdhijkdldmoaaGreatDoor
