/- A printer in memory. -/
import Derived.Test.YthbdhijkdldmoaaGreatDoorTokSmall
import Derived.Test.YthbdhijkdldmoaaGreatDoorTokPri
namespace Go.Proofs.YthbdhijkdldmoaaGreatDoor
open Go.RowKit Tk Ob
theorem step_pushk {P : Program} {w : World} {ops : Array Oper} {o : Oper} {a : Act} {K : Act → World → Prop} {Q : Exit → Act → World → Prop} {E : Prop} {t e : TypeId} {z : Value} {size bytes : Nat} (T : ElemK P t e z size bytes) (hgd : o.guard = none) (s x : Operand)
    (ho : o.op = .call { callee := .builtin .append, args := #[s, x], argTypes := #[t, t] })
    (base : Nat) (v : Value) (n : Nat) (xs : List Value) (hs : a.eval s = v) (hown : w.ownsRow base e size v n xs)
    (ad : Addr) (c : Nat) (news : List Value) (hx : a.eval x = .slice (some ad) 1 c) (hl : news.length = 1 * size) (hu : ∀ j u, news[j]? = some u → w.cell? (ad.add j) = some u) (h1 : ∀ u ∈ news, u.oneCell' = true) (hbytes : (n + 1) * bytes ≤ 140737488355328) (hpos : 0 < bytes) (hsz : 0 < size) (hbase : base ≤ w.heap.size)
    (h : ∀ g cap w', w'.ownsRow base e size (.slice (some ⟨g, 0, none⟩) (n + 1) cap) (n + 1) (xs ++ news) → w.grownBy w' v.ownBlock → (some g = v.ownBlock ∨ g = w.heap.size) → K (a.put o.dst (.slice (some ⟨g, 0, none⟩) (n + 1) cap)) w') :
    if Region.wanted o (yielded ops a.tmps) = true then Oper.wp P o a w K Q else E := by
  have hw : Region.wanted o (yielded ops a.tmps) = true := by simp [Region.wanted, hgd]
  rw [if_pos hw]
  obtain ⟨i, h2, h3, h4, h5⟩ := T.hi
  have hlen : n + 1 ≤ maxLen := by
    have := Nat.le_mul_of_pos_right (n + 1) hpos
    unfold maxLen; omega
  obtain ⟨v', w', hrun, a1, a2, _, a4⟩ := run_append_own_at (P := P) w base t o.type e i z size bytes T.ht h2 h3 h4 h5 T.hz hsz v n xs hown ad 1 c news hl hu h1 hlen hbytes hbase
  unfold Oper.wp execOp
  simp only [ho, resolve, invoke, builtin, Sem.run_bind, Sem.run_pure, Result.andThen_ok, List.map_toArray, List.map_cons, List.map_nil, hs, hx, hrun]
  have hg : ∃ g cap, v' = .slice (some ⟨g, 0, none⟩) (n + 1) cap := by
    rcases a1.2 with ⟨_, h0⟩ | ⟨g, cap, cur, hv, _⟩
    · omega
    · exact ⟨g, cap, hv⟩
  obtain ⟨g, cap, rfl⟩ := hg
  exact h g cap w' a1 a2 (by simpa [Value.ownBlock] using a4)
/-- A token without places. -/
def tk0 (b : BTok) : Tok := ⟨b, 0, 0⟩
/-- A printer in block b: its list of tokens v, a row in a block from B on; how many objects it has met. -/
structure PrS (w : World) (b B : Nat) (v : Value) (ts : List BTok) (n : Nat) : Prop where
  blk : Blk w b 47 #[v, .int .i64 n]
  own : w.ownsRow B 53 5 v ts.length (toksC (ts.map tk0))
/-- What a call on a printer may turn. -/
def TPr (b : Nat) (v : Value) (k : Nat) : Prop := k = b ∨ v.ownBlock = some k
section
variable {w w' : World} {b B R : Nat} {v : Value} {ts : List BTok} {n : Nat} {T : Nat → Prop}
theorem PrS.fr (h : PrS w b B v ts n) (hf : FrS R T w w') (hR : w.heap.size ≤ R) (hb : ¬ T b) (hT : ∀ k, v.ownBlock = some k → ¬ T k) : PrS w' b B v ts n :=
  ⟨hf.blk h.blk (by have := h.blk.lt; omega) hb, hf.own h.own fun k hk => by
    obtain ⟨h1, h2⟩ := own_lt h.own k hk
    exact ⟨by omega, hT k hk⟩⟩
theorem PrS.alloc (h : PrS w b B v ts n) (o : Obj) : PrS (w.alloc o) b B v ts n := h.fr ((FrS.refl w.heap.size (fun _ => False) w).alloc (Nat.le_refl _) o) (Nat.le_refl _) (fun h => h) fun _ _ h => h
theorem PrS.cells (h : PrS w b B v ts n) : w.cell? ⟨b, 0, none⟩ = some v ∧ w.cell? ⟨b, 1, none⟩ = some (.int .i64 n) ∧ w.frozen? ⟨b, 0, none⟩ = false ∧ w.frozen? ⟨b, 1, none⟩ = false ∧ b < w.heap.size := by
  refine ⟨by simpa using Blk.cell h.blk 0, by simpa using Blk.cell h.blk 1, Blk.frozen h.blk 0, Blk.frozen h.blk 1, h.blk.lt⟩
end
/-- One more token behind the others: append, then the store of the list. -/
theorem PrS.push {w w1 w2 : World} {b B : Nat} {v v' : Value} {ts : List BTok} {n : Nat} {ob : Obj} (h : PrS w b B v ts n) (hbB : b < B) (t : BTok) (e1 : w1 = w.alloc ob)
    (hown : w2.ownsRow B 53 5 v' (ts.length + 1) (toksC (ts.map tk0) ++ tokC (tk0 t))) (hg : w1.grownBy w2 v.ownBlock) (hv : v'.ownBlock = v.ownBlock ∨ v'.ownBlock = some w1.heap.size) :
    PrS (w2.setCell ⟨b, 0, none⟩ v') b B v' (ts ++ [t]) n ∧ FrS w.heap.size (TPr b v) w (w2.setCell ⟨b, 0, none⟩ v') ∧ (v'.ownBlock = v.ownBlock ∨ ∃ k, v'.ownBlock = some k ∧ w.heap.size ≤ k) := by
  have hlt := h.blk.lt
  subst e1
  have hz : (w.alloc ob).heap.size = w.heap.size + 1 := by simp
  have hne : some b ≠ v.ownBlock := fun e => by have := (own_lt h.own b e.symm).1; omega
  have hb2 : Blk w2 b 47 #[v, .int .i64 n] := ((h.blk.alloc ob).grown hg hne)
  have hne' : v'.ownBlock ≠ some b := fun e => by
    rcases hv with hv | hv
    · exact hne (by rw [← hv, e])
    · rw [hv] at e; cases e; omega
  refine ⟨⟨by simpa using hb2.put 0 v', ?_⟩, ?_, ?_⟩
  · rw [List.map_append, List.map_singleton, toksC_snoc, List.length_append, List.length_singleton]
    exact own_setCell hown (.inr hne') _
  · refine FrS.put (p := ⟨b, 0, none⟩) ?_ (.inr (.inl rfl)) _
    exact ((FrS.refl w.heap.size (TPr b v) w).alloc (Nat.le_refl _) ob).grown hg (by omega) fun k hk => .inr (.inr hk)
  · rcases hv with hv | hv
    · exact .inl hv
    · exact .inr ⟨_, hv, by omega⟩
def AddPost (b B : Nat) (v : Value) (ts : List BTok) (r : Except Int (List BTok × Nat)) (w : World) (e : Ending) (w' : World) : Prop :=
  FrS w.heap.size (TPr b v) w w' ∧ match r with
    | .error er => er ≠ 0 ∧ e = .returned (.int .i64 er)
    | .ok (l, m) => e = .returned (.int .i64 0) ∧ ∃ v', PrS w' b B v' (ts ++ l) m ∧ (v'.ownBlock = v.ownBlock ∨ ∃ k, v'.ownBlock = some k ∧ w.heap.size ≤ k)
end Go.Proofs.YthbdhijkdldmoaaGreatDoor
