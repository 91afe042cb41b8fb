/- Objects of the call's own that are changed: what a change leaves, trees put together anew. -/
import Derived.Test.YthbdhijkdldmoaaGreatDoorObjCln
namespace Go.Proofs.YthbdhijkdldmoaaGreatDoor
open Go.RowKit Tk Ob
def Ob.Ox.withKids (o : Ox) (ks : List Tk.Src) (os : List Ox) : Ox := .mk o.kind o.int o.text ks os
theorem with_kind (o : Ox) (ks : List Tk.Src) (os : List Ox) : (o.withKids ks os).kind = o.kind := rfl
theorem with_int (o : Ox) (ks : List Tk.Src) (os : List Ox) : (o.withKids ks os).int = o.int := rfl
theorem with_text (o : Ox) (ks : List Tk.Src) (os : List Ox) : (o.withKids ks os).text = o.text := rfl
theorem with_keys (o : Ox) (ks : List Tk.Src) (os : List Ox) : (o.withKids ks os).keys = ks := rfl
theorem with_kids (o : Ox) (ks : List Tk.Src) (os : List Ox) : (o.withKids ks os).kids = os := rfl
theorem with_with (o : Ox) (ks ks2 : List Tk.Src) (os os2 : List Ox) : (o.withKids ks os).withKids ks2 os2 = o.withKids ks2 os2 := rfl
theorem with_self (o : Ox) : o.withKids o.keys o.kids = o := by cases o; rfl
/-- Five values written into a block's cells. -/
def set5 (cs : Array Value) (off : Nat) (v : V5) : Array Value := ((((cs.setIfInBounds off v.k).setIfInBounds (off + 1) v.i).setIfInBounds (off + 2) v.t).setIfInBounds (off + 3) v.ks).setIfInBounds (off + 4) v.os
/-- An object of the call's own at a place of a block. -/
structure Ed (w : World) (b off : Nat) (cs : Array Value) (t : TypeId) (v : V5) (o : Ox) (F : Nat → Prop) : Prop where
  blk : Blk w b t cs
  cell : ∀ j u, v.cells[j]? = some u → cs[off + j]? = some u
  own : OwnO w v o F
  far : ¬ F b
/-- What a change leaves: an error, or the object changed, of rows of its own, of X and of new ones. -/
def EdPost (r : Except Int Ox) (w : World) (b off : Nat) (cs : Array Value) (t : TypeId) (F X : Nat → Prop) (e : Ending) (w' : World) : Prop :=
  FrS w.heap.size (fun k => k = b ∨ F k) w w' ∧ match r with
  | .error c => e = .returned (.int .i64 c)
  | .ok o => e = .returned (.int .i64 0) ∧ ∃ v : V5, Blk w' b t (set5 cs off v) ∧ OwnO w' v o (fun x => F x ∨ X x ∨ w.heap.size ≤ x)
theorem Ed.cells {w : World} {b off : Nat} {cs : Array Value} {t : TypeId} {v : V5} {o : Ox} {F : Nat → Prop} (h : Ed w b off cs t v o F) :
    w.cell? ⟨b, off, none⟩ = some v.k ∧ w.cell? ⟨b, off + 1, none⟩ = some v.i ∧ w.cell? ⟨b, off + 2, none⟩ = some v.t ∧ w.cell? ⟨b, off + 3, none⟩ = some v.ks ∧ w.cell? ⟨b, off + 4, none⟩ = some v.os :=
  ⟨(Blk.cell h.blk off).trans (h.cell 0 _ rfl), (Blk.cell h.blk (off + 1)).trans (h.cell 1 _ rfl), (Blk.cell h.blk (off + 2)).trans (h.cell 2 _ rfl), (Blk.cell h.blk (off + 3)).trans (h.cell 3 _ rfl), (Blk.cell h.blk (off + 4)).trans (h.cell 4 _ rfl)⟩
theorem Ed.later {w w' : World} {b off : Nat} {cs : Array Value} {t : TypeId} {v : V5} {o : Ox} {F : Nat → Prop} (h : Ed w b off cs t v o F) (hb : Below w.heap.size w w') : Ed w' b off cs t v o F :=
  ⟨h.blk.below hb h.blk.lt, h.cell, h.own.keep fun x _ hl => hb.block x hl, h.far⟩
theorem EdPost.below {r : Except Int Ox} {w0 w : World} {b off : Nat} {cs : Array Value} {t : TypeId} {F X : Nat → Prop} {e : Ending} {w' : World} (hb : Below w0.heap.size w0 w) (h : EdPost r w b off cs t F X e w') : EdPost r w0 b off cs t F X e w' := by
  refine ⟨(FrS.of_below hb (Nat.le_refl _)).trans (h.1.weak hb.size fun k _ hk => hk), ?_⟩
  have h2 := h.2
  cases r with
  | error c => exact h2
  | ok o =>
    obtain ⟨h3, v, h4, h5⟩ := h2
    exact ⟨h3, v, h4, h5.mono fun x hx => hx.imp id (.imp id fun h => Nat.le_trans hb.size h)⟩
theorem EdPost.drew {r : Except Int Ox} {w : World} {b off : Nat} {cs : Array Value} {t : TypeId} {F X : Nat → Prop} {e : Ending} {w' : World} (h : EdPost r w b off cs t F X e w') : EdPost r w b off cs t F X e w'.drew := by
  refine ⟨h.1.drew, ?_⟩
  have h2 := h.2
  cases r with
  | error c => exact h2
  | ok o =>
    obtain ⟨h3, v, h4, h5⟩ := h2
    exact ⟨h3, v, h4.drew, h5.keep fun _ _ _ => rfl⟩
theorem set5_same {cs : Array Value} {off : Nat} {v : V5} (h : ∀ j u, v.cells[j]? = some u → cs[off + j]? = some u) : set5 cs off v = cs := by
  have hs : ∀ (cs : Array Value) (i : Nat) (u : Value), cs[i]? = some u → cs.setIfInBounds i u = cs := fun cs i u h => by
    apply Array.ext'
    rw [Array.toList_setIfInBounds]
    apply List.ext_getElem? fun k => ?_
    rw [List.getElem?_set]
    split
    · rename_i e; subst e
      rw [Array.getElem?_toList, h]
      have := (Array.getElem?_eq_some_iff.1 h).1
      simp [this]
    · rfl
  unfold set5
  have h0 := h 0 _ rfl
  rw [Nat.add_zero] at h0
  rw [hs cs off _ h0, hs cs _ _ (h 1 _ rfl), hs cs _ _ (h 2 _ rfl), hs cs _ _ (h 3 _ rfl), hs cs _ _ (h 4 _ rfl)]
theorem set5_size (cs : Array Value) (off : Nat) (v : V5) : (set5 cs off v).size = cs.size := by simp [set5]
/-- The parts of a tree of rows of the call's own. -/
structure OwnP (w : World) (o : Ox) (F : Nat → Prop) (kv dv : Value) (vs : List V5) (Fs : Nat → Nat → Prop) : Prop where
  hk : w.ownsRow 0 9 1 kv o.keys.length (strs o.keys)
  hd : w.ownsRow 0 25 5 dv o.kids.length (v5cs vs)
  hl : vs.length = o.kids.length
  hkid : ∀ j (h : j < o.kids.length) (h2 : j < vs.length), OwnO w vs[j] o.kids[j] (Fs j)
  fk : ∀ x, kv.ownBlock = some x → F x
  fd : ∀ x, dv.ownBlock = some x → F x
  ff : ∀ j x, j < o.kids.length → Fs j x → F x
  dk : ∀ x, kv.ownBlock = some x → dv.ownBlock ≠ some x
  dj : ∀ j x, j < o.kids.length → Fs j x → kv.ownBlock ≠ some x ∧ dv.ownBlock ≠ some x
  dd : ∀ j j' x, j < o.kids.length → j' < o.kids.length → j ≠ j' → Fs j x → ¬ Fs j' x
  lt : ∀ j x, j < o.kids.length → Fs j x → x < w.heap.size
theorem OwnO.opn {w : World} {v : V5} {o : Ox} {F : Nat → Prop} (h : OwnO w v o F) : ∃ kv dv vs Fs, v = ⟨.int .i64 o.kind, .int .i64 o.int, .string ⟨o.text.toArray⟩, kv, dv⟩ ∧ OwnP w o F kv dv vs Fs := by
  cases h with
  | mk _ k i t keys kids kv dv vs Fs hk hd hl hkid fk fd ff dk dj dd =>
    refine ⟨kv, dv, vs, fun j x => Fs j x ∧ x < w.heap.size, rfl, hk, hd, hl, fun j a b => ?_, fk, fd, fun j x hj hx => ff j x hj hx.1, dk, fun j x hj hx => dj j x hj hx.1, fun j j' x hj hj' hn hx hx' => dd j j' x hj hj' hn hx.1 hx'.1, fun j x hj hx => hx.2⟩
    obtain ⟨G, g1, g2, g3⟩ := (hkid j a b).lt
    exact g1.mono fun x hx => ⟨g2 x hx, g3 x hx⟩
theorem OwnP.shut {w : World} {o : Ox} {F : Nat → Prop} {kv dv : Value} {vs : List V5} {Fs : Nat → Nat → Prop} (h : OwnP w o F kv dv vs Fs) : OwnO w ⟨.int .i64 o.kind, .int .i64 o.int, .string ⟨o.text.toArray⟩, kv, dv⟩ o F := by
  obtain ⟨k, i, t, keys, kids⟩ := o
  exact .mk F k i t keys kids kv dv vs Fs h.hk h.hd h.hl h.hkid h.fk h.fd h.ff h.dk h.dj h.dd
/-- An element of an object of the call's own: it stands in the row of the elements. -/
theorem OwnP.kid {w : World} {o : Ox} {F : Nat → Prop} {kv dv : Value} {vs : List V5} {Fs : Nat → Nat → Prop} (h : OwnP w o F kv dv vs Fs) {i : Nat} (hi : i < o.kids.length) (h2 : i < vs.length) :
    ∃ g cap cur, dv = .slice (some ⟨g, 0, none⟩) o.kids.length cap ∧ o.kids.length ≤ cap ∧ cap ≤ maxLen ∧ F g ∧ g < w.heap.size ∧ Ed w g (i * 5) cur 25 vs[i] o.kids[i] (Fs i) := by
  have hd := h.hd
  have hfd := h.fd
  have hdj := h.dj
  obtain ⟨hl, hd⟩ := hd
  rcases hd with ⟨_, e⟩ | ⟨g, cap, cur, rfl, hg, hh, hnc, hcm, hsz, hx⟩
  · omega
  · refine ⟨g, cap, cur, rfl, hnc, hcm, hfd g rfl, (own_lt h.hd g rfl).2, hh, fun j u hu => ?_, h.hkid i hi h2, fun hF => (hdj i g hi hF).2 rfl⟩
    have hj5 : j < 5 := by have := (List.getElem?_eq_some_iff.1 hu).1; simpa [v5len] using this
    have hc := v5cs_get vs i j h2 hj5
    rw [hu, ← hx, List.getElem?_take, Array.getElem?_toList] at hc
    split at hc
    · exact hc
    · cases hc
def upR (o : Ox) (i : Nat) (r : Except Int Ox) : Except Int Ox := match r with
  | .error e => .error e
  | .ok k => .ok (o.withKids o.keys (o.kids.set i k))
/-- A change of an element is a change of the object. -/
theorem EdPost.up {w w' : World} {o : Ox} {F X : Nat → Prop} {b off g i n cap : Nat} {cs cur : Array Value} {t : TypeId} {kv : Value} {vs : List V5} {Fs : Nat → Nat → Prop} {e : Ending} {r : Except Int Ox}
    (he : Ed w b off cs t ⟨.int .i64 o.kind, .int .i64 o.int, .string ⟨o.text.toArray⟩, kv, .slice (some ⟨g, 0, none⟩) n cap⟩ o F) (h : OwnP w o F kv (.slice (some ⟨g, 0, none⟩) n cap) vs Fs) (hi : i < o.kids.length) (hb : w.heap[g]? = some (.cells cur 25 (0, 0)))
    (hX : ∀ x, X x → ¬ F x ∧ x ≠ b) (hp : EdPost r w g (i * 5) cur 25 (Fs i) X e w') :
    EdPost (upR o i r) w b off cs t F X e w' := by
  have hfr : FrS w.heap.size (fun k => k = b ∨ F k) w w' := hp.1.weak (Nat.le_refl _) fun k _ hk => .inr (hk.elim (fun e => e ▸ h.fd g rfl) fun hk => h.ff i k hi hk)
  refine ⟨hfr, ?_⟩
  cases r with
  | error c => exact hp.2
  | ok k =>
    obtain ⟨he0, v', hbl, how⟩ := hp.2
    have hgb : b ≠ g := fun e => he.far (e ▸ h.fd g rfl)
    have hFb : ¬ Fs i b := fun hx => he.far (h.ff i b hi hx)
    refine ⟨he0, ⟨.int .i64 o.kind, .int .i64 o.int, .string ⟨o.text.toArray⟩, kv, .slice (some ⟨g, 0, none⟩) n cap⟩, ?_, ?_⟩
    · rw [set5_same he.cell]
      exact hp.1.blk he.blk he.blk.lt (fun hx => hx.elim hgb hFb)
    · obtain ⟨G, g1, g2, g3⟩ := how.lt
      have hl2 : i < vs.length := by rw [h.hl]; exact hi
      have hkeep : ∀ x, x < w.heap.size → x ≠ g → ¬ Fs i x → w'.heap[x]? = w.heap[x]? := fun x hx h1 h2 => hp.1.block x hx (fun hh => hh.elim h1 h2)
      have hP : OwnP w' (o.withKids o.keys (o.kids.set i k)) (fun x => F x ∨ X x ∨ w.heap.size ≤ x) kv (.slice (some ⟨g, 0, none⟩) n cap) (vs.set i v') (fun j => if j = i then G else Fs j) := by
        have hgl := (own_lt h.hd g rfl).2
        refine ⟨?_, ?_, ?_, fun j hj h2 => ?_, fun x hx => .inl (h.fk x hx), fun x hx => .inl (h.fd x hx), fun j x hj hx => ?_, h.dk, fun j x hj hx => ?_, fun j j' x hj hj' hn hx hx' => ?_, fun j x hj hx => ?_⟩
        · exact own_same h.hk fun x hx => hkeep x (own_lt h.hk x hx).2 (fun e => h.dk x hx (e ▸ rfl)) fun hf => (h.dj i x hi hf).1 hx
        · have hd := h.hd
          obtain ⟨hl, hd⟩ := hd
          simp only [with_kids, List.length_set]
          refine ⟨by rw [v5cs_len, List.length_set, h.hl], ?_⟩
          rcases hd with ⟨e, _⟩ | ⟨g', cap', cur', e, hg, hh, hnc, hcm, hsz, hx⟩
          · cases e
          · injection e with e1 e2 e3
            injection e1 with e1
            injection e1 with e1
            subst e1; subst e3
            rw [hb] at hh
            injection hh with hh
            injection hh with hh
            subst hh
            refine .inr ⟨g, cap, _, by rw [e2], hg, hbl, hnc, hcm, by rw [set5_size]; exact hsz, ?_⟩
            rw [← v5cs_set vs i v' hl2, ← hx]
            simp only [set5, Array.toList_setIfInBounds, List.take_set]
        · simp only [with_kids, List.length_set]; exact h.hl
        · simp only [with_kids] at hj ⊢
          by_cases ej : j = i
          · subst ej
            rw [if_pos rfl, List.getElem_set_self, List.getElem_set_self]
            exact g1
          · rw [if_neg ej, List.getElem_set_ne (fun e => ej e.symm), List.getElem_set_ne (fun e => ej e.symm)]
            have hj' : j < o.kids.length := by simpa using hj
            have hjv : j < vs.length := by simpa using h2
            exact (h.hkid j hj' hjv).keep fun x hx hlx => hkeep x hlx (fun e => (h.dj j x hj' hx).2 (e ▸ rfl)) (fun hf => h.dd j i x hj' hi ej hx hf)
        · have hj' : j < o.kids.length := by simpa [with_kids] using hj
          by_cases ej : j = i
          · subst ej
            rw [if_pos rfl] at hx
            exact (g2 x hx).imp (h.ff j x hj') id
          · rw [if_neg ej] at hx
            exact .inl (h.ff j x hj' hx)
        · have hj' : j < o.kids.length := by simpa [with_kids] using hj
          by_cases ej : j = i
          · subst ej
            rw [if_pos rfl] at hx
            rcases g2 x hx with hf | hf | hf
            · exact h.dj j x hj' hf
            · exact ⟨fun e => (hX x hf).1 (h.fk x e), fun e => (hX x hf).1 (h.fd x e)⟩
            · exact ⟨fun e => by have := (own_lt h.hk x e).2; omega, fun e => by have := (own_lt h.hd x e).2; omega⟩
          · rw [if_neg ej] at hx
            exact h.dj j x hj' hx
        · have hj0 : j < o.kids.length := by simpa [with_kids] using hj
          have hj0' : j' < o.kids.length := by simpa [with_kids] using hj'
          have key : ∀ j, j < o.kids.length → j ≠ i → ∀ x, G x → ¬ Fs j x := fun j hj hne x hx hf => by
            rcases g2 x hx with h1 | h1 | h1
            · exact h.dd j i x hj hi hne hf h1
            · exact (hX x h1).1 (h.ff j x hj hf)
            · have := h.lt j x hj hf; omega
          by_cases ej : j = i
          · have ej' : j' ≠ i := fun e => hn (ej.trans e.symm)
            rw [if_pos ej] at hx
            rw [if_neg ej'] at hx'
            exact key j' hj0' ej' x hx hx'
          · rw [if_neg ej] at hx
            by_cases ej' : j' = i
            · rw [if_pos ej'] at hx'
              exact key j hj0 ej x hx' hx
            · rw [if_neg ej'] at hx'
              exact h.dd j j' x hj0 hj0' hn hx hx'
        · have hj0 : j < o.kids.length := by simpa [with_kids] using hj
          by_cases ej : j = i
          · rw [if_pos ej] at hx
            exact g3 x hx
          · rw [if_neg ej] at hx
            exact Nat.lt_of_lt_of_le (h.lt j x hj0 hx) hp.1.size
      exact hP.shut
/-- A tree put together anew: elements of the former one, or a new one of rows of X. -/
theorem OwnP.build {w w' : World} {o : Ox} {F X : Nat → Prop} {b : Nat} {kv dv kv' dv' : Value} {vs vs' : List V5} {Fs : Nat → Nat → Prop} {keys' : List Tk.Src} {kids' : List Ox} {vv : V5} {V : Ox} (src : Nat → Option Nat)
    (h : OwnP w o F kv dv vs Fs) (hs : w.heap.size ≤ w'.heap.size) (far : ¬ F b) (hX : ∀ x, X x → ¬ F x ∧ x ≠ b)
    (hk : w'.ownsRow 0 9 1 kv' keys'.length (strs keys')) (hd : w'.ownsRow 0 25 5 dv' kids'.length (v5cs vs')) (hl : vs'.length = kids'.length)
    (keep : ∀ x, x < w.heap.size → kv.ownBlock ≠ some x → dv.ownBlock ≠ some x → x ≠ b → w'.heap[x]? = w.heap[x]?)
    (hkv : kv'.ownBlock = kv.ownBlock ∨ ∃ k, kv'.ownBlock = some k ∧ w.heap.size ≤ k) (hdv : dv'.ownBlock = dv.ownBlock ∨ ∃ k, dv'.ownBlock = some k ∧ w.heap.size ≤ k) (hne : ∀ x, kv'.ownBlock = some x → dv'.ownBlock ≠ some x)
    (hsome : ∀ j p, j < kids'.length → src j = some p → p < o.kids.length ∧ vs'[j]? = vs[p]? ∧ kids'[j]? = o.kids[p]?)
    (hnone : ∀ j, j < kids'.length → src j = none → OwnO w vv V X ∧ vs'[j]? = some vv ∧ kids'[j]? = some V)
    (hinj : ∀ j j', j < kids'.length → j' < kids'.length → src j = src j' → j = j') :
    OwnO w' ⟨.int .i64 o.kind, .int .i64 o.int, .string ⟨o.text.toArray⟩, kv', dv'⟩ (o.withKids keys' kids') (fun x => F x ∨ X x ∨ w.heap.size ≤ x) := by
  have hin : ∀ x, kv'.ownBlock = some x ∨ dv'.ownBlock = some x → F x ∨ w.heap.size ≤ x := fun x hx => by
    rcases hx with hx | hx
    · rcases hkv with e | ⟨k, e, hk⟩
      · exact .inl (h.fk x (e ▸ hx))
      · rw [e] at hx; cases hx; exact .inr hk
    · rcases hdv with e | ⟨k, e, hk⟩
      · exact .inl (h.fd x (e ▸ hx))
      · rw [e] at hx; cases hx; exact .inr hk
  have hP : OwnP w' (o.withKids keys' kids') (fun x => F x ∨ X x ∨ w.heap.size ≤ x) kv' dv' vs' (fun j x => match src j with | some p => Fs p x | none => X x ∧ x < w.heap.size) := by
    have hcls : ∀ j x, j < kids'.length → (match src j with | some p => Fs p x | none => X x ∧ x < w.heap.size) → x < w.heap.size ∧ ((∃ p, src j = some p ∧ p < o.kids.length ∧ Fs p x) ∨ src j = none ∧ X x) := fun j x hj hx => by
      cases e : src j with
      | some p => rw [e] at hx; have := (hsome j p hj e).1; exact ⟨h.lt p x this hx, .inl ⟨p, rfl, this, hx⟩⟩
      | none => rw [e] at hx; exact ⟨hx.2, .inr ⟨rfl, hx.1⟩⟩
    refine ⟨hk, hd, hl, fun j hj h2 => ?_, fun x hx => (hin x (.inl hx)).imp id .inr, fun x hx => (hin x (.inr hx)).imp id .inr, fun j x hj hx => ?_, hne, fun j x hj hx => ?_, fun j j' x hj hj' hn hx hx' => ?_, fun j x hj hx => ?_⟩
    · have hj' : j < kids'.length := hj
      cases e : src j with
      | some p =>
        obtain ⟨hp, e1, e2⟩ := hsome j p hj' e
        have hpv : p < vs.length := by rw [h.hl]; exact hp
        rw [List.getElem?_eq_getElem h2, List.getElem?_eq_getElem hpv] at e1
        rw [List.getElem?_eq_getElem hj', List.getElem?_eq_getElem hp] at e2
        injection e1 with e1
        injection e2 with e2
        show OwnO w' vs'[j] kids'[j] (Fs p)
        rw [e1, e2]
        exact (h.hkid p hp hpv).keep fun x hx hlx => keep x hlx (h.dj p x hp hx).1 (h.dj p x hp hx).2 fun e => far (e ▸ h.ff p x hp hx)
      | none =>
        obtain ⟨hV, e1, e2⟩ := hnone j hj' e
        rw [List.getElem?_eq_getElem h2] at e1
        rw [List.getElem?_eq_getElem hj'] at e2
        injection e1 with e1
        injection e2 with e2
        show OwnO w' vs'[j] kids'[j] (fun x => X x ∧ x < w.heap.size)
        rw [e1, e2]
        obtain ⟨G, g1, g2, g3⟩ := hV.lt
        exact (g1.mono fun x hx => ⟨g2 x hx, g3 x hx⟩).keep fun x hx hlx => keep x hlx (fun e => (hX x hx.1).1 (h.fk x e)) (fun e => (hX x hx.1).1 (h.fd x e)) (hX x hx.1).2
    · obtain ⟨_, ⟨p, _, hp, hf⟩ | ⟨_, hf⟩⟩ := hcls j x hj hx
      · exact .inl (h.ff p x hp hf)
      · exact .inr (.inl hf)
    · obtain ⟨hlx, hor⟩ := hcls j x hj hx
      have hno : ∀ x, x < w.heap.size → (kv.ownBlock ≠ some x ∧ dv.ownBlock ≠ some x) → kv'.ownBlock ≠ some x ∧ dv'.ownBlock ≠ some x := fun x hlx hh => by
        refine ⟨fun e => ?_, fun e => ?_⟩
        · rcases hkv with e2 | ⟨k, e2, hk⟩
          · exact hh.1 (e2 ▸ e)
          · rw [e2] at e; cases e; omega
        · rcases hdv with e2 | ⟨k, e2, hk⟩
          · exact hh.2 (e2 ▸ e)
          · rw [e2] at e; cases e; omega
      apply hno x hlx
      rcases hor with ⟨p, _, hp, hf⟩ | ⟨_, hf⟩
      · exact h.dj p x hp hf
      · exact ⟨fun e => (hX x hf).1 (h.fk x e), fun e => (hX x hf).1 (h.fd x e)⟩
    · obtain ⟨_, h1⟩ := hcls j x hj hx
      obtain ⟨_, h2⟩ := hcls j' x hj' hx'
      rcases h1 with ⟨p, e1, hp, hf⟩ | ⟨e1, hf⟩ <;> rcases h2 with ⟨p', e2, hp', hf'⟩ | ⟨e2, hf'⟩
      · refine h.dd p p' x hp hp' (fun e => hn (hinj j j' hj hj' ?_)) hf hf'
        rw [e1, e2, e]
      · exact (hX x hf').1 (h.ff p x hp hf)
      · exact (hX x hf).1 (h.ff p' x hp' hf')
      · exact hn (hinj j j' hj hj' (e1.trans e2.symm))
    · exact Nat.lt_of_lt_of_le (hcls j x hj hx).1 hs
  exact hP.shut
/-- The rest of a path. -/
theorem Sl.tail {w : World} {P : Nat → Prop} {b off n c : Nat} {x : Value} {xs : List Value} (h : Sl w P (.slice (some ⟨b, off, none⟩) n c) (x :: xs)) : Sl w P (.slice (some ⟨b, off + 1, none⟩) (n - 1) (c - 1)) xs := by
  obtain ⟨A, m, e, hl, hm, hc⟩ := h
  injection e with e1 e2 e3
  subst e1; subst e3
  have e2' : n = xs.length + 1 := by simpa using e2
  subst e2'
  have hl' : xs.length + 1 ≤ c := by simpa using hl
  refine ⟨some ⟨b, off + 1, none⟩, c - 1, by simp, by omega, by omega, fun hn => ?_⟩
  obtain ⟨a, ha, hP, hb, hcc⟩ := hc (by simp)
  cases ha
  refine ⟨_, rfl, hP, hb, fun i u hu => ?_⟩
  have := hcc (i + 1) u (by simpa using hu)
  rw [add_plain] at this ⊢
  rw [show off + 1 + i = off + (i + 1) by omega]
  exact this
/-- Where the elements of a row with one more come from. -/
def insSrc (i j : Nat) : Option Nat := if j < i then some j else if j = i then none else some (j - 1)
theorem ins_at {α : Type} (l : List α) (i j : Nat) (x : α) (h : i ≤ l.length) (hj : j < (l.insertIdx i x).length) : (l.insertIdx i x)[j]? = match insSrc i j with | some p => l[p]? | none => some x := by
  have hl := ins_len l i x h
  rw [List.getElem?_eq_getElem hj, ins_get l i j x h hj]
  unfold insSrc
  by_cases h1 : j < i
  · rw [dif_pos h1, if_pos h1]; exact (List.getElem?_eq_getElem _).symm
  · rw [dif_neg h1, if_neg h1]
    by_cases h2 : j = i
    · rw [dif_pos h2, if_pos h2]
    · rw [dif_neg h2, if_neg h2]; exact (List.getElem?_eq_getElem _).symm
theorem set5_two {cs : Array Value} {off : Nat} {v : V5} (h : ∀ j u, v.cells[j]? = some u → cs[off + j]? = some u) (kv dv : Value) : set5 cs off ⟨v.k, v.i, v.t, kv, dv⟩ = (cs.setIfInBounds (off + 3) kv).setIfInBounds (off + 4) dv := by
  have hs : ∀ (cs : Array Value) (i : Nat) (u : Value), cs[i]? = some u → cs.setIfInBounds i u = cs := fun cs i u h => by
    apply Array.ext'
    rw [Array.toList_setIfInBounds]
    apply List.ext_getElem? fun k => ?_
    rw [List.getElem?_set]
    split
    · rename_i e; subst e
      rw [Array.getElem?_toList, h]
      have := (Array.getElem?_eq_some_iff.1 h).1
      simp [this]
    · rfl
  unfold set5
  have h0 := h 0 _ rfl
  rw [Nat.add_zero] at h0
  simp only [hs cs off _ h0, hs cs _ _ (h 1 _ rfl), hs cs _ _ (h 2 _ rfl)]
theorem set_same {cs : Array Value} {i : Nat} {u : Value} (h : cs[i]? = some u) : cs.setIfInBounds i u = cs := by
  apply Array.ext'
  rw [Array.toList_setIfInBounds]
  apply List.ext_getElem? fun k => ?_
  rw [List.getElem?_set]
  split
  · rename_i e; subst e
    rw [Array.getElem?_toList, h]
    have := (Array.getElem?_eq_some_iff.1 h).1
    simp [this]
  · rfl
/-- One more element, and maybe one more key. -/
theorem EdPost.ins {w w' : World} {o : Ox} {F X : Nat → Prop} {b off i : Nat} {cs : Array Value} {t : TypeId} {kv dv kv' dv' : Value} {vs : List V5} {Fs : Nat → Nat → Prop} {vv : V5} {V : Ox} {keys' : List Tk.Src}
    (he : Ed w b off cs t ⟨.int .i64 o.kind, .int .i64 o.int, .string ⟨o.text.toArray⟩, kv, dv⟩ o F) (h : OwnP w o F kv dv vs Fs) (hi : i ≤ o.kids.length) (hX : ∀ x, X x → ¬ F x ∧ x ≠ b) (hV : OwnO w vv V X)
    (hk : w'.ownsRow 0 9 1 kv' keys'.length (strs keys')) (hd : w'.ownsRow 0 25 5 dv' (o.kids.length + 1) ((v5cs vs).take (i * 5) ++ vv.cells ++ (v5cs vs).drop (i * 5)))
    (hf : FrS w.heap.size (fun k => k = b ∨ kv.ownBlock = some k ∨ dv.ownBlock = some k) w w')
    (hkv : kv'.ownBlock = kv.ownBlock ∨ ∃ k, kv'.ownBlock = some k ∧ w.heap.size ≤ k) (hdv : dv'.ownBlock = dv.ownBlock ∨ ∃ k, dv'.ownBlock = some k ∧ w.heap.size ≤ k) (hne : ∀ x, kv'.ownBlock = some x → dv'.ownBlock ≠ some x)
    (hb : Blk w' b t ((cs.setIfInBounds (off + 3) kv').setIfInBounds (off + 4) dv')) :
    EdPost (.ok (o.withKids keys' (o.kids.insertIdx i V))) w b off cs t F X (.returned (.int .i64 0)) w' := by
  have hiv : i ≤ vs.length := by rw [h.hl]; exact hi
  have hkl := ins_len o.kids i V hi
  have hvl := ins_len vs i vv hiv
  refine ⟨hf.weak (Nat.le_refl _) fun k _ hk => hk.imp id fun hk => hk.elim (h.fk k) (h.fd k), rfl, ⟨.int .i64 o.kind, .int .i64 o.int, .string ⟨o.text.toArray⟩, kv', dv'⟩, ?_, ?_⟩
  · have := set5_two he.cell kv' dv'
    dsimp only at this
    rw [this]; exact hb
  · refine OwnP.build (vv := vv) (V := V) (insSrc i) h hf.size he.far hX hk (vs' := vs.insertIdx i vv) ?_ ?_ (fun x hx h1 h2 h3 => hf.block x hx fun hh => hh.elim h3 fun hh => hh.elim h1 h2) hkv hdv hne (fun j p hj hs => ?_) (fun j hj hs => ?_) (fun j j' hj hj' e => ?_)
    · rw [hkl, v5cs_ins vs i vv hiv]; exact hd
    · rw [hvl, hkl, h.hl]
    · have h1 := ins_at o.kids i j V hi hj
      have h2 := ins_at vs i j vv hiv (by rw [hvl]; rw [hkl] at hj; rw [h.hl]; exact hj)
      rw [hs] at h1 h2
      refine ⟨?_, h2, h1⟩
      rw [List.getElem?_eq_getElem hj] at h1
      exact (List.getElem?_eq_some_iff.1 h1.symm).1
    · have h1 := ins_at o.kids i j V hi hj
      have h2 := ins_at vs i j vv hiv (by rw [hvl]; rw [hkl] at hj; rw [h.hl]; exact hj)
      rw [hs] at h1 h2
      exact ⟨hV, h2, h1⟩
    · unfold insSrc at e
      split at e <;> split at e <;> (try split at e) <;> (try split at e) <;> simp at e <;> omega
end Go.Proofs.YthbdhijkdldmoaaGreatDoor
