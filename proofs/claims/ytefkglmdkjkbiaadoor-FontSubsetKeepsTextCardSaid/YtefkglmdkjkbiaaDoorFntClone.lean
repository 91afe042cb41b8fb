/- The walks of slices.Clone at points, and of the closure that asks whether a code has no glyph. -/
import Derived.Test.YtefkglmdkjkbiaaDoorFntRdG
import Derived.Test.YtefkglmdkjkbiaaDoorFntFnd
import Derived.Test.YtefkglmdkjkbiaaDoorFntSort
import Derived.Lib.Walk
import Derived.Lib.SliceRun
import Derived.Deep.DeepMust
namespace Go.Proofs.YtefkglmdkjkbiaaDoor
open Go.RowKit Fnt
/-- append of a whole slice, nil or not, of elements of several cells, onto a slice of the call's own. -/
theorem wpList_append_slk {P : Program} {w : World} {ops : Array Oper} {rest : List Oper} {o : Oper} {a : Act} {Q : Exit → Act → World → Prop} {t e : TypeId} {z : Value} {size bytes : Nat} (T : ElemK P t e z size bytes) (hgd : o.guard = none) (s x : Operand)
    (ho : o.op = .call { callee := .builtin .append, args := #[s, x], argTypes := #[t, t] })
    (base : Nat) (v : Value) (n : Nat) (xs : List Value) (hs : a.eval s = v) (hown : w.ownsRow base e size v n xs)
    (A : Option Addr) (m c : Nat) (news : List Value) (ok : Nat → Prop) (hx : a.eval x = .slice A m c) (hr : SlM w ok (.slice A m c) m news) (hl : news.length = m * size) (h1 : ∀ u ∈ news, u.oneCell' = true) (hbytes : (n + m) * bytes ≤ 140737488355328) (hpos : 0 < bytes) (hsz : 0 < size) (hbase : base ≤ w.heap.size)
    (h : ∀ v' w', w'.ownsRow base e size v' (n + m) (xs ++ news) → w.grownBy w' v.ownBlock → (v'.ownBlock = v.ownBlock ∨ v'.ownBlock = some w.heap.size) → wpList P ops Q rest (a.put o.dst v') w') :
    wpList P ops Q (o :: rest) a w := by
  obtain ⟨i, h2, h3, h4, h5⟩ := T.hi
  have hlen : n + m ≤ maxLen := by
    have := Nat.le_mul_of_pos_right (n + m) hpos
    unfold maxLen; omega
  obtain ⟨A', cap', hv, hl1, hl2, hcell⟩ := hr
  injection hv with hA hm hc
  subst hA; subst hc
  cases A with
  | none =>
    have h0 : m = 0 := by
      rcases Nat.eq_zero_or_pos m with h0 | h0
      · exact h0
      · obtain ⟨b, off, h, _⟩ := hcell h0; cases h
    subst h0
    have hn : news = [] := List.eq_nil_of_length_eq_zero (by omega)
    subst hn
    refine wpList_plain hgd fun K hK => ?_
    have hr := run_append_nil_src (P := P) w base t o.type e i size T.ht h2 v n xs hown c
    unfold Oper.wp execOp
    simp only [ho, resolve, invoke, builtin, Sem.run_bind, Sem.run_pure, Result.andThen_ok, List.map_toArray, List.map_cons, List.map_nil, hs, hx, hr]
    exact hK _ _ (h v w (by simpa using hown) (World.grownBy.refl w _) (.inl rfl))
  | some ad =>
    exact wpList_append_own_at w hgd s x t ho base e i z size bytes T.ht h2 h3 h4 h5 T.hz hsz v n xs hs hown ad m c news hx hl
      (fun j y hy => by
        have hj : 0 < m := by
          rcases Nat.eq_zero_or_pos m with h0 | h0
          · subst h0; have := (List.getElem?_eq_some_iff.1 hy).1; omega
          · exact h0
        obtain ⟨b, off, h, _, _, hcc⟩ := hcell hj
        injection h with h
        subst h
        rw [add_plain]
        exact hcc j y hy)
      h1 hlen hbytes hbase (fun v' w' a1 a2 _ a4 => h v' w' a1 a2 a4)
def ptcs (l : List Pt) : List Value := l.flatMap ptc
theorem ptcs_length (l : List Pt) : (ptcs l).length = l.length * 3 := flat_length (f := ptc) (m := 3) (fun _ => rfl) l
theorem ptcs_ones (l : List Pt) : ∀ u ∈ ptcs l, u.oneCell' = true := by
  intro u hu
  unfold ptcs at hu
  obtain ⟨p, _, hp⟩ := List.mem_flatMap.1 hu
  simp only [ptc, List.mem_cons, List.not_mem_nil, or_false] at hp
  rcases hp with rfl | rfl | rfl <;> rfl
set_option maxRecDepth 100000 in
set_option maxHeartbeats 4000000 in
theorem clone_pts (v : Value) (l : List Pt) (ok : Nat → Prop) (w : World) (h : Pts w ok v l) (hn : l.length ≤ 100000) :
    Calls Tryd.prog 51 #[v] w fun e w' => ∃ v', e = .returned v' ∧ w'.ownsRow w.heap.size 64 3 v' l.length (ptcs l) ∧ Below w.heap.size w w' := by
  have HL := Lib.hid h
  have q38 : ∀ (w : World) (a : Option Addr) (n c n' c' : Nat), (binOp .eql 61 (.slice a n c) (.slice none n' c')).run Tryd.prog w = .ok (.bool a.isNone) w := fun w a n c n' c' => Lib.run_eql_slice_nil w _ _ a n c n' c' Tryd.underlying61
  obtain ⟨A, c, ev⟩ := SlM.form h
  subst ev
  clear h
  generalize hlen : l.length = n at *
  have HN := Lib.hid hlen
  clear hlen
  cases A with
  | none =>
    have hn0 : n = 0 := by
      rcases Nat.eq_zero_or_pos n with h | h
      · exact h
      · obtain ⟨b, off, e, _⟩ := SlM.addr HL.out (by rw [HN.out]; exact h); cases e
    subst hn0
    have hl : l = [] := List.eq_nil_of_length_eq_zero HN.out
    subst hl
    go_enter Tryd.func51, Tryd.ntmps51
    go_wp2
    go_ret
    exact ⟨_, rfl, World.ownsRow_nil w _ _ _, Below.refl _ w⟩
  | some ad =>
    have hown0 : Hid ((w.alloc (.cells #[] 64)).ownsRow w.heap.size 64 3 (.slice (some ⟨w.heap.size, 0, none⟩) 0 0) 0 []) :=
      ⟨rfl, .inr ⟨w.heap.size, 0, #[], rfl, Nat.le_refl _, heap_alloc_new w _, Nat.le_refl _, by simp, by simp, by simp⟩⟩
    go_enter Tryd.func51, Tryd.ntmps51
    go_wp2_with (at_builtin; go_must (refine wpList_append_slk ePt rfl (.tmp 5) (.tmp 6) rfl w.heap.size _ 0 [] rfl hown0.out (some ad) n c (ptcs l) ok rfl (by have := SlM.alloc HL.out (.cells #[] 64); rw [HN.out] at this; exact this) (by rw [ptcs_length, HN.out]) (ptcs_ones l) (by omega) (by omega) (by omega) (by simp) ?_; intro v' w2 hown2 hg2 _))
    go_wp2
    go_ret
    refine ⟨_, rfl, by simpa [List.nil_append] using hown2, ?_⟩
    exact ((Below.refl _ w).alloc (Nat.le_refl _) _).grown hg2 (by simp) (by intro k hk; exact Nat.le_of_eq (Option.some.inj hk))
set_option maxRecDepth 100000 in
set_option maxHeartbeats 4000000 in
theorem zero_any (F : Font) (hF : FOk F) (c : Int) (bf : Nat) (un : Int) (Ag Am Ak : Option Addr) (cg cm ck ng nm nk : Nat) (ok : Nat → Prop) (w : World)
    (hk : Blk w bf 26 #[.int .i64 un, .slice Ag ng cg, .slice Am nm cm, .slice Ak nk ck]) (hf : FntV w ok (.agg #[.int .i64 un, .slice Ag ng cg, .slice Am nm cm, .slice Ak nk ck]) F) :
    Calls Tryd.prog 50 #[.int .i64 c, .pointer (some ⟨bf, 0, none⟩)] w fun e w' => e = .returned (.bool (decide (find F c = 0))) ∧ Below w.heap.size w w' := by
  have HFd := Lib.hid (find_any F c _ ok w hf (by have := hF.m1; omega) hF.rg (by have := hF.n1; omega))
  have k0 := hk.cell 0
  have k1 := hk.cell 1
  have k2 := hk.cell 2
  have k3 := hk.cell 3
  simp only [List.getElem?_toArray, List.getElem?_cons_zero, List.getElem?_cons_succ] at k0 k1 k2 k3
  have hl := hk.lt
  clear hk hf hF
  generalize find F c = r at *
  go_enter Tryd.func50, Tryd.ntmps50
  go_wp2_with (go_at_call 34; refine HFd.out.mono ?_; rintro e w1 ⟨rfl, hb1⟩)
  go_ret
  exact ⟨rfl, hb1⟩
end Go.Proofs.YtefkglmdkjkbiaaDoor
