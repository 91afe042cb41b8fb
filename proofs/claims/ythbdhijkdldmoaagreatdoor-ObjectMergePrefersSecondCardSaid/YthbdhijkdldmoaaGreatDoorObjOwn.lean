/- slices.Clone at objects; trees of rows of the call's own. -/
import Derived.Test.YthbdhijkdldmoaaGreatDoorTokSmall
import Derived.Test.YthbdhijkdldmoaaGreatDoorLaid3
import Derived.Lib.Walk
import Derived.Lib.SliceRun
import Derived.Deep.DeepMust
namespace Go.Proofs.YthbdhijkdldmoaaGreatDoor
open Go.RowKit Tk Ob
/-- append of a whole slice, nil or not, of elements of several cells, onto a slice of the call's own. -/
theorem wpList_append_slk {P : Program} {w : World} {ops : Array Oper} {rest : List Oper} {o : Oper} {a : Act} {Q : Exit → Act → World → Prop} {t e : TypeId} {z : Value} {size bytes : Nat} (T : ElemK P t e z size bytes) (hgd : o.guard = none) (s x : Operand)
    (ho : o.op = .call { callee := .builtin .append, args := #[s, x], argTypes := #[t, t] })
    (base : Nat) (v : Value) (n : Nat) (xs : List Value) (hs : a.eval s = v) (hown : w.ownsRow base e size v n xs)
    (A : Option Addr) (m c : Nat) (news : List Value) (ok : Nat → Prop) (hx : a.eval x = .slice A m c) (hr : SlM w ok (.slice A m c) m news) (hl : news.length = m * size) (h1 : ∀ u ∈ news, u.oneCell' = true) (hbytes : (n + m) * bytes ≤ 140737488355328) (hpos : 0 < bytes) (hsz : 0 < size) (hbase : base ≤ w.heap.size)
    (h : ∀ v' w', w'.ownsRow base e size v' (n + m) (xs ++ news) → w.grownBy w' v.ownBlock → (v'.ownBlock = v.ownBlock ∨ v'.ownBlock = some w.heap.size) → wpList P ops Q rest (a.put o.dst v') w') :
    wpList P ops Q (o :: rest) a w := by
  obtain ⟨i, h2, h3, h4, h5⟩ := T.hi
  have hlen : n + m ≤ maxLen := by
    have := Nat.le_mul_of_pos_right (n + m) hpos
    unfold maxLen; omega
  obtain ⟨A', cap', hv, hl1, hl2, hcell⟩ := hr
  injection hv with hA hm hc
  subst hA; subst hc
  cases A with
  | none =>
    have h0 : m = 0 := by
      rcases Nat.eq_zero_or_pos m with h0 | h0
      · exact h0
      · obtain ⟨b, off, h, _⟩ := hcell h0; cases h
    subst h0
    have hn : news = [] := List.eq_nil_of_length_eq_zero (by omega)
    subst hn
    refine wpList_plain hgd fun K hK => ?_
    have hr := run_append_nil_src (P := P) w base t o.type e i size T.ht h2 v n xs hown c
    unfold Oper.wp execOp
    simp only [ho, resolve, invoke, builtin, Sem.run_bind, Sem.run_pure, Result.andThen_ok, List.map_toArray, List.map_cons, List.map_nil, hs, hx, hr]
    exact hK _ _ (h v w (by simpa using hown) (World.grownBy.refl w _) (.inl rfl))
  | some ad =>
    exact wpList_append_own_at w hgd s x t ho base e i z size bytes T.ht h2 h3 h4 h5 T.hz hsz v n xs hs hown ad m c news hx hl
      (fun j y hy => by
        have hj : 0 < m := by
          rcases Nat.eq_zero_or_pos m with h0 | h0
          · subst h0; have := (List.getElem?_eq_some_iff.1 hy).1; omega
          · exact h0
        obtain ⟨b, off, h, _, _, hcc⟩ := hcell hj
        injection h with h
        subst h
        rw [add_plain]
        exact hcc j y hy)
      h1 hlen hbytes hbase (fun v' w' a1 a2 _ a4 => h v' w' a1 a2 a4)
set_option maxRecDepth 100000 in
set_option maxHeartbeats 4000000 in
theorem clone_objs (v : Value) (l : List V5) (ok : Nat → Prop) (w : World) (h : SlM w ok v l.length (v5cs l)) (hones : ∀ u ∈ v5cs l, u.oneCell' = true) (hn : l.length ≤ 100000) :
    Calls Tryz.prog 51 #[v] w fun e w' => ∃ v', e = .returned v' ∧ w'.ownsRow w.heap.size 25 5 v' l.length (v5cs l) ∧ Below w.heap.size w w' := by
  have HL := Lib.hid h
  have HOn := Lib.hid hones
  have q38 : ∀ (w : World) (a : Option Addr) (n c n' c' : Nat), (binOp .eql 23 (.slice a n c) (.slice none n' c')).run Tryz.prog w = .ok (.bool a.isNone) w := fun w a n c n' c' => Lib.run_eql_slice_nil w _ _ a n c n' c' Tryz.underlying23
  obtain ⟨A, c, ev⟩ := SlM.form h
  subst ev
  clear h hones
  generalize hlen : l.length = n at *
  have HN := Lib.hid hlen
  clear hlen
  cases A with
  | none =>
    have hn0 : n = 0 := by
      rcases Nat.eq_zero_or_pos n with h | h
      · exact h
      · obtain ⟨b, off, e, _⟩ := SlM.addr HL.out h; cases e
    subst hn0
    have hl : l = [] := List.eq_nil_of_length_eq_zero HN.out
    subst hl
    go_enter Tryz.func51, Tryz.ntmps51
    go_wp2
    go_ret
    exact ⟨_, rfl, World.ownsRow_nil w _ _ _, Below.refl _ w⟩
  | some ad =>
    have hown0 : Hid ((w.alloc (.cells #[] 25)).ownsRow w.heap.size 25 5 (.slice (some ⟨w.heap.size, 0, none⟩) 0 0) 0 []) :=
      ⟨rfl, .inr ⟨w.heap.size, 0, #[], rfl, Nat.le_refl _, heap_alloc_new w _, Nat.le_refl _, by simp, by simp, by simp⟩⟩
    go_enter Tryz.func51, Tryz.ntmps51
    go_wp2_with (at_builtin; go_must (refine wpList_append_slk eOb rfl (.tmp 5) (.tmp 6) rfl w.heap.size _ 0 [] rfl hown0.out (some ad) n c (v5cs l) ok rfl (by have := SlM.alloc HL.out (.cells #[] 25); exact this) (by rw [v5cs_len, HN.out]) HOn.out (by omega) (by omega) (by omega) (by simp) ?_; intro v' w2 hown2 hg2 _))
    go_wp2
    go_ret
    refine ⟨_, rfl, by simpa [List.nil_append] using hown2, ?_⟩
    exact ((Below.refl _ w).alloc (Nat.le_refl _) _).grown hg2 (by simp) (by intro k hk; exact Nat.le_of_eq (Option.some.inj hk))
/-- A tree of rows of the call's own: all its blocks are such as F says, and no two of its parts share one. -/
inductive OwnO (w : World) : V5 → Ox → (Nat → Prop) → Prop
  | mk (F : Nat → Prop) (k i : Int) (t : Tk.Src) (keys : List Tk.Src) (kids : List Ox) (kv dv : Value) (vs : List V5) (Fs : Nat → Nat → Prop)
      (hk : w.ownsRow 0 9 1 kv keys.length (strs keys)) (hd : w.ownsRow 0 25 5 dv kids.length (v5cs vs)) (hl : vs.length = kids.length)
      (hkid : ∀ j (h : j < kids.length) (h2 : j < vs.length), OwnO w vs[j] kids[j] (Fs j))
      (fk : ∀ x, kv.ownBlock = some x → F x) (fd : ∀ x, dv.ownBlock = some x → F x) (ff : ∀ j x, j < kids.length → Fs j x → F x)
      (dk : ∀ x, kv.ownBlock = some x → dv.ownBlock ≠ some x) (dj : ∀ j x, j < kids.length → Fs j x → kv.ownBlock ≠ some x ∧ dv.ownBlock ≠ some x) (dd : ∀ j j' x, j < kids.length → j' < kids.length → j ≠ j' → Fs j x → ¬ Fs j' x) :
      OwnO w ⟨.int .i64 k, .int .i64 i, .string ⟨t.toArray⟩, kv, dv⟩ (.mk k i t keys kids) F
section
variable {w w' : World} {v : V5} {o : Ox} {F G : Nat → Prop}
theorem OwnO.lt (h : OwnO w v o F) : ∃ G : Nat → Prop, OwnO w v o G ∧ (∀ x, G x → F x) ∧ ∀ x, G x → x < w.heap.size := by
  induction h with
  | mk F k i t keys kids kv dv vs Fs hk hd hl hkid fk fd ff dk dj dd ih =>
    refine ⟨fun x => F x ∧ x < w.heap.size, .mk _ k i t keys kids kv dv vs (fun j x => Fs j x ∧ x < w.heap.size) hk hd hl (fun j a b => ?_) (fun x hx => ⟨fk x hx, (own_lt hk x hx).2⟩) (fun x hx => ⟨fd x hx, (own_lt hd x hx).2⟩) (fun j x hj hx => ⟨ff j x hj hx.1, hx.2⟩) dk (fun j x hj hx => dj j x hj hx.1) (fun j j' x hj hj' hn hx hx' => dd j j' x hj hj' hn hx.1 hx'.1), fun x hx => hx.1, fun x hx => hx.2⟩
    obtain ⟨G, g1, g2, g3⟩ := ih j a b
    have : ∀ (v : V5) (o : Ox) (G H : Nat → Prop), OwnO w v o G → (∀ x, G x → H x) → OwnO w v o H := fun v o G H h hGH => by
      cases h with
      | mk _ k i t keys kids kv dv vs Fs hk hd hl hkid fk fd ff dk dj dd => exact .mk H k i t keys kids kv dv vs Fs hk hd hl hkid (fun x hx => hGH x (fk x hx)) (fun x hx => hGH x (fd x hx)) (fun j x hj hx => hGH x (ff j x hj hx)) dk dj dd
    exact this _ _ G _ g1 fun x hx => ⟨g2 x hx, g3 x hx⟩
theorem OwnO.mono (h : OwnO w v o F) (hFG : ∀ x, F x → G x) : OwnO w v o G := by
  cases h with
  | mk _ k i t keys kids kv dv vs Fs hk hd hl hkid fk fd ff dk dj dd => exact .mk G k i t keys kids kv dv vs Fs hk hd hl hkid (fun x hx => hFG x (fk x hx)) (fun x hx => hFG x (fd x hx)) (fun j x hj hx => hFG x (ff j x hj hx)) dk dj dd
theorem own_same {base n size : Nat} {e : TypeId} {v : Value} {xs : List Value} (h : w.ownsRow base e size v n xs) (hf : ∀ x, v.ownBlock = some x → w'.heap[x]? = w.heap[x]?) : w'.ownsRow base e size v n xs := by
  rcases h with ⟨hl, h⟩
  refine ⟨hl, ?_⟩
  rcases h with h | ⟨g, cap, cur, rfl, hg, hh, r⟩
  · exact .inl h
  · exact .inr ⟨g, cap, cur, rfl, hg, (hf g rfl).trans hh, r⟩
theorem OwnO.keep (h : OwnO w v o F) (hf : ∀ x, F x → x < w.heap.size → w'.heap[x]? = w.heap[x]?) : OwnO w' v o F := by
  induction h with
  | mk F k i t keys kids kv dv vs Fs hk hd hl hkid fk fd ff dk dj dd ih =>
    exact .mk F k i t keys kids kv dv vs Fs (own_same hk fun x hx => hf x (fk x hx) (own_lt hk x hx).2) (own_same hd fun x hx => hf x (fd x hx) (own_lt hd x hx).2) hl (fun j a b => ih j a b fun x hx hl => hf x (ff j x a hx) hl) fk fd ff dk dj dd
theorem OwnO.objV (h : OwnO w v o F) : ObjV F w v o := by
  induction h with
  | mk F k i t keys kids kv dv vs Fs hk hd hl hkid fk fd ff dk dj dd ih =>
    have hk' : w.ownsRow 0 9 1 kv (strs keys).length (strs keys) := by simpa [strs] using hk
    exact .mk k i t keys kids kv dv vs ((Sl.of_own hk').mono fun x _ hx => fk x hx.1.symm) ((SlM.of_own hd).mono fun x _ hx => fd x hx.1.symm) hl fun j a b => (ih j a b).mono fun x _ hx => ff j x a hx
end
/-- An object that Print prints, wherever it stands. -/
def Ad (o : Ox) : Prop := ∃ f d n r, addF f d o n = .ok r
theorem kids_ad {f d : Nat} {dict : Bool} : ∀ (os : List Ox) (ks : List Tk.Src) (n : Nat) (r : List BTok × Nat), kidsF (addF f d) dict ks os n = .ok r → ∀ k ∈ os, Ad k
  | [], _, _, _, _ => fun k hk => by cases hk
  | o :: os, ks, n, (l, m), h => by
    obtain ⟨l1, n1, l2, h1, h2, rfl⟩ := kidsF_cons h
    intro k hk
    rcases List.mem_cons.1 hk with rfl | hk
    · exact ⟨f, d, n, _, h1⟩
    · exact kids_ad os ks.tail n1 _ h2 k hk
theorem Ad.node {o : Ox} (h : Ad o) : ∃ d, nodeE o d = 0 := by
  obtain ⟨f, d, n, ⟨l, m⟩, h⟩ := h
  cases f with
  | zero => cases h
  | succ f => exact ⟨d, (addF_cases h).2.1⟩
theorem Ad.small {o : Ox} (h : Ad o) : o.keys.length ≤ 256 ∧ o.kids.length ≤ 256 ∧ Sorted o.keys := by
  obtain ⟨d, hn⟩ := h.node
  obtain ⟨_, _, _, _, _, _, h7, h8, _, h10, h11⟩ := nodeE_zero hn
  refine ⟨?_, h10, (keysE_zero _ _ h11).2.2⟩
  by_cases hk : o.kind = 7
  · rw [h7 hk]; exact h10
  · rw [h8 hk]; simp
theorem Ad.kid {o : Ox} (h : Ad o) : ∀ k ∈ o.kids, Ad k := by
  have h' := h
  obtain ⟨f, d, n, ⟨l, m⟩, h⟩ := h
  cases f with
  | zero => cases h
  | succ f =>
    obtain ⟨_, hn, ⟨hk, _, _, _⟩ | ⟨_, l1, hl, _⟩⟩ := addF_cases h
    · intro k hkk
      have := (nodeE_zero hn).2.2.2.2.2.1 (List.length_pos_of_mem hkk)
      omega
    · exact kids_ad _ _ _ _ hl
theorem ad_of_print {o : Ox} {s : Tk.Src} (h : printO o = .ok s) : Ad o := by
  unfold printO at h
  cases ha : addF 12 1 o 0 with
  | error e => rw [ha] at h; cases h
  | ok r => exact ⟨12, 1, 0, r, ha⟩
end Go.Proofs.YthbdhijkdldmoaaGreatDoor
