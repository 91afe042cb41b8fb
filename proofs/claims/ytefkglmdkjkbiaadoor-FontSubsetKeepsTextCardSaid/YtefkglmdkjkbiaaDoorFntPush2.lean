/- A font's glyphs, ranges and pairs as they grow. -/
import Derived.Test.YtefkglmdkjkbiaaDoorFntRdG
import Derived.Test.YtefkglmdkjkbiaaDoorTailHeld
import Derived.Test.YtefkglmdkjkbiaaDoorOpenFnt
namespace Go.Proofs.YtefkglmdkjkbiaaDoor
open Go.RowKit Fnt
theorem step_pushk {P : Program} {w : World} {ops : Array Oper} {o : Oper} {a : Act} {K : Act → World → Prop} {Q : Exit → Act → World → Prop} {E : Prop} {t e : TypeId} {z : Value} {size bytes : Nat} (T : ElemK P t e z size bytes) (hgd : o.guard = none) (s x : Operand)
    (ho : o.op = .call { callee := .builtin .append, args := #[s, x], argTypes := #[t, t] })
    (base : Nat) (v : Value) (n : Nat) (xs : List Value) (hs : a.eval s = v) (hown : w.ownsRow base e size v n xs)
    (ad : Addr) (c : Nat) (news : List Value) (hx : a.eval x = .slice (some ad) 1 c) (hl : news.length = 1 * size) (hu : ∀ j u, news[j]? = some u → w.cell? (ad.add j) = some u) (h1 : ∀ u ∈ news, u.oneCell' = true) (hbytes : (n + 1) * bytes ≤ 140737488355328) (hpos : 0 < bytes) (hsz : 0 < size) (hbase : base ≤ w.heap.size)
    (h : ∀ g cap w', w'.ownsRow base e size (.slice (some ⟨g, 0, none⟩) (n + 1) cap) (n + 1) (xs ++ news) → w.grownBy w' v.ownBlock → (some g = v.ownBlock ∨ g = w.heap.size) → K (a.put o.dst (.slice (some ⟨g, 0, none⟩) (n + 1) cap)) w') :
    if Region.wanted o (yielded ops a.tmps) = true then Oper.wp P o a w K Q else E := by
  have hw : Region.wanted o (yielded ops a.tmps) = true := by simp [Region.wanted, hgd]
  rw [if_pos hw]
  obtain ⟨i, h2, h3, h4, h5⟩ := T.hi
  have hlen : n + 1 ≤ maxLen := by
    have := Nat.le_mul_of_pos_right (n + 1) hpos
    unfold maxLen; omega
  obtain ⟨v', w', hrun, a1, a2, _, a4⟩ := run_append_own_at (P := P) w base t o.type e i z size bytes T.ht h2 h3 h4 h5 T.hz hsz v n xs hown ad 1 c news hl hu h1 hlen hbytes hbase
  unfold Oper.wp execOp
  simp only [ho, resolve, invoke, builtin, Sem.run_bind, Sem.run_pure, Result.andThen_ok, List.map_toArray, List.map_cons, List.map_nil, hs, hx, hrun]
  have hg : ∃ g cap, v' = .slice (some ⟨g, 0, none⟩) (n + 1) cap := by
    rcases a1.2 with ⟨_, h0⟩ | ⟨g, cap, cur, hv, _⟩
    · omega
    · exact ⟨g, cap, hv⟩
  obtain ⟨g, cap, rfl⟩ := hg
  exact h g cap w' a1 a2 (by simpa [Value.ownBlock] using a4)
abbrev GlB := Gl × Value × Value
def glf (b : GlB) : List Value := [.int .i64 b.1.adv, b.2.1, b.2.2]
instance : Inhabited GlB := ⟨(default, Value.nilIface, Value.nilIface)⟩
/-- Glyphs that grow. -/
def GlR (w : World) (B : Nat) (gv : Value) (L : List GlB) : Prop :=
  w.ownsRow B 84 3 gv L.length (L.flatMap glf) ∧ ∀ j, j < L.length → Cons w (fun k => some k ≠ gv.ownBlock ∧ B ≤ k) (L.getD j default).2.1 (L.getD j default).1.cs ∧ Pas w (fun k => some k ≠ gv.ownBlock ∧ B ≤ k) (L.getD j default).2.2 (L.getD j default).1.ps
theorem GlR.nil (w : World) (B : Nat) : GlR w B (.slice none 0 0) [] := ⟨World.ownsRow_nil _ _ _ _, fun j h => absurd h (by simp)⟩
theorem Cons.mono {w : World} {ok ok' : Nat → Prop} {v : Value} {cs : List (List Pt)} (h : Cons w ok v cs) (hk : ∀ b, b < w.heap.size → ok b → ok' b) : Cons w ok' v cs := by
  obtain ⟨vs, h1, h2⟩ := h
  exact ⟨vs, h1.mono hk, fun i hi => (h2 i hi).mono hk⟩
theorem GlR.fr {R : Nat} {S : Nat → Prop} {w w' : World} {B : Nat} {gv : Value} {L : List GlB} (h : GlR w B gv L) (hf : FrS R S w w') (hw : w.heap.size ≤ R) (hS : ∀ k, S k → k < B) : GlR w' B gv L := by
  obtain ⟨ho, hp⟩ := h
  refine ⟨hf.own ho fun k hk => ?_, fun j hj => ⟨(hp j hj).1.keep hf.size fun k hk hl => hf.block k (by omega) fun e => by have := hS k e; omega, SlM.keep (hp j hj).2 hf.size fun k hk hl => hf.block k (by omega) fun e => by have := hS k e; omega⟩⟩
  have := own_lt ho k hk
  exact ⟨by omega, fun e => by have := hS k e; omega⟩
theorem gls_of {w : World} {ok : Nat → Prop} {v : Value} {l : List GlB} (hl : SlM w ok v l.length (l.flatMap glf)) (hg : ∀ i, i < l.length → Cons w ok (l.getD i default).2.1 (l.getD i default).1.cs ∧ Pas w ok (l.getD i default).2.2 (l.getD i default).1.ps) : Gls w ok v (l.map (·.1)) := by
  refine ⟨fun i => (l.getD i default).2, ?_, fun i hi => ?_⟩
  · rw [List.length_map]
    have e : (List.range l.length).flatMap (glc (l.map (·.1)) fun i => (l.getD i default).2) = l.flatMap glf := by
      rw [List.flatMap_def, List.flatMap_def, ← range_map l default glf]
      congr 1
      apply List.map_congr_left
      intro i hi
      have hi' : i < l.length := by simpa using hi
      unfold glc glf
      simp only [List.getD_eq_getElem?_getD, List.getElem?_map, List.getElem?_eq_getElem hi', Option.map_some, Option.getD_some]
    rw [e]; exact hl
  · rw [List.length_map] at hi
    have h1 := hg i hi
    rw [List.getD_eq_getElem?_getD, List.getElem?_eq_getElem hi] at h1
    show Cons w _ (l.getD i default).2.1 _ ∧ Pas w _ (l.getD i default).2.2 _
    rw [List.getD_eq_getElem?_getD (l := l), List.getD_eq_getElem?_getD, List.getElem?_map, List.getElem?_eq_getElem hi]
    exact h1
theorem GlR.gls {w : World} {B : Nat} {gv : Value} {L : List GlB} (h : GlR w B gv L) : Gls w (fun k => B ≤ k) gv (L.map (·.1)) :=
  gls_of ((SlM.of_own h.1).mono fun _ _ h => h.2) fun i hi => ⟨(h.2 i hi).1.mono fun _ _ h => h.2, (h.2 i hi).2.mono fun _ _ h => h.2⟩
/-- One more glyph. -/
theorem GlR.push {wo wr w1 : World} {B : Nat} {gv gv' : Value} {L : List GlB} {b : GlB} {ob : Obj} {S : Nat → Prop}
    (h : GlR wo B gv L) (hB : B ≤ wo.heap.size) (hf : FrS wo.heap.size S wo wr) (hS : ∀ k, S k → k < B)
    (hc : Cons wr (fun k => wo.heap.size ≤ k) b.2.1 b.1.cs) (hp : Pas wr (fun k => wo.heap.size ≤ k) b.2.2 b.1.ps)
    (hown : w1.ownsRow B 84 3 gv' (L.length + 1) (L.flatMap glf ++ glf b)) (hg : (wr.alloc ob).grownBy w1 gv.ownBlock) (hk : gv'.ownBlock = gv.ownBlock ∨ gv'.ownBlock = some (wr.alloc ob).heap.size) : GlR w1 B gv' (L ++ [b]) := by
  obtain ⟨ho, hall⟩ := h
  have hsz := hf.size
  refine ⟨by rw [List.length_append, List.flatMap_append]; simpa using hown, fun i hi => ?_⟩
  have hgz := hg.size
  have keep : ∀ {v cs}, Cons (wr.alloc ob) (fun k => some k ≠ gv.ownBlock ∧ some k ≠ gv'.ownBlock ∧ B ≤ k) v cs → Cons w1 (fun k => some k ≠ gv'.ownBlock ∧ B ≤ k) v cs := fun h => (h.keep hgz fun k hk hl => hg.block k hl hk.1).mono fun k _ h => h.2
  have keep2 : ∀ {v ps}, Pas (wr.alloc ob) (fun k => some k ≠ gv.ownBlock ∧ some k ≠ gv'.ownBlock ∧ B ≤ k) v ps → Pas w1 (fun k => some k ≠ gv'.ownBlock ∧ B ≤ k) v ps := fun h => (SlM.keep h hgz fun k hk hl => hg.block k hl hk.1).mono fun k _ h => h.2
  have al : ∀ {v cs ok}, Cons wr ok v cs → Cons (wr.alloc ob) ok v cs := fun h => h.keep (by simp) fun k _ hl => Below.heap_alloc wr ob k hl
  rcases Nat.lt_or_ge i L.length with hl | hl
  · have e : (L ++ [b]).getD i default = L.getD i default := by rw [List.getD_eq_getElem?_getD, List.getElem?_append_left hl, ← List.getD_eq_getElem?_getD]
    rw [e]
    have x1 := ((hall i hl).1.mono (ok' := fun k => (some k ≠ gv.ownBlock ∧ B ≤ k) ∧ k < wo.heap.size) fun k hk h => ⟨h, hk⟩)
    have x2 := (SlM.mono (hall i hl).2 (ok' := fun k => (some k ≠ gv.ownBlock ∧ B ≤ k) ∧ k < wo.heap.size) fun k hk h => ⟨h, hk⟩)
    have hkk : ∀ k, ((some k ≠ gv.ownBlock ∧ B ≤ k) ∧ k < wo.heap.size) → k < wo.heap.size → wr.heap[k]? = wo.heap[k]? := fun k h h2 => hf.block k h2 fun e => by have := hS k e; omega
    have hne : ∀ k, k < (wr.alloc ob).heap.size → ((some k ≠ gv.ownBlock ∧ B ≤ k) ∧ k < wo.heap.size) → (some k ≠ gv.ownBlock ∧ some k ≠ gv'.ownBlock ∧ B ≤ k) := fun k _ ⟨h, hlt⟩ => ⟨h.1, by
      rcases hk with e | e
      · rw [e]; exact h.1
      · rw [e]; simp; omega, h.2⟩
    exact ⟨keep ((al (x1.keep hf.size hkk)).mono hne), keep2 ((SlM.alloc (SlM.keep x2 hf.size hkk) ob).mono hne)⟩
  · have hi' : i = L.length := by rw [List.length_append] at hi; simp at hi; omega
    subst hi'
    have e : (L ++ [b]).getD L.length default = b := by rw [List.getD_eq_getElem?_getD, List.getElem?_append_right (Nat.le_refl _), Nat.sub_self]; rfl
    rw [e]
    have hne0 : ∀ k, wo.heap.size ≤ k → some k ≠ gv.ownBlock := fun k hk' e => by have := own_lt ho k e.symm; omega
    have hne : ∀ k, k < (wr.alloc ob).heap.size → (wo.heap.size ≤ k ∧ k < wr.heap.size) → (some k ≠ gv.ownBlock ∧ some k ≠ gv'.ownBlock ∧ B ≤ k) := fun k _ ⟨h, hlt⟩ => ⟨hne0 k h, by
      rcases hk with e | e
      · rw [e]; exact hne0 k h
      · rw [e]; simp; omega, by omega⟩
    exact ⟨keep ((al (hc.mono (ok' := fun k => wo.heap.size ≤ k ∧ k < wr.heap.size) fun k hk h => ⟨h, hk⟩)).mono hne), keep2 ((SlM.alloc (SlM.mono hp (ok' := fun k => wo.heap.size ≤ k ∧ k < wr.heap.size) fun k hk h => ⟨h, hk⟩) ob).mono hne)⟩
end Go.Proofs.YtefkglmdkjkbiaaDoor
