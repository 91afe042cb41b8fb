/- The walks of slices.Grow and slices.Concat at leaves. -/
import Derived.Test.YtjmanooedgfbaaaDoorFoldMem
import Derived.Lib.Walk
import Derived.Lib.SliceRun
import Derived.Lib.AppendZerosOnto
import Derived.Deep.DeepMust
namespace Go.Proofs.YtjmanooedgfbaaaDoor
open Go.RowKit
/-- append of a whole slice, nil or not, of elements of several cells, onto a slice of the call's own. -/
theorem wpList_append_slk {P : Program} {w : World} {ops : Array Oper} {rest : List Oper} {o : Oper} {a : Act} {Q : Exit → Act → World → Prop} {t e : TypeId} {z : Value} {size bytes : Nat} (T : ElemK P t e z size bytes) (hgd : o.guard = none) (s x : Operand)
    (ho : o.op = .call { callee := .builtin .append, args := #[s, x], argTypes := #[t, t] })
    (base : Nat) (v : Value) (n : Nat) (xs : List Value) (hs : a.eval s = v) (hown : w.ownsRow base e size v n xs)
    (A : Option Addr) (m c : Nat) (news : List Value) (ok : Nat → Prop) (hx : a.eval x = .slice A m c) (hr : SlM w ok (.slice A m c) m news) (hl : news.length = m * size) (h1 : ∀ u ∈ news, u.oneCell' = true) (hbytes : (n + m) * bytes ≤ 140737488355328) (hpos : 0 < bytes) (hsz : 0 < size) (hbase : base ≤ w.heap.size)
    (h : ∀ v' w', w'.ownsRow base e size v' (n + m) (xs ++ news) → w.grownBy w' v.ownBlock → (v'.ownBlock = v.ownBlock ∨ v'.ownBlock = some w.heap.size) → wpList P ops Q rest (a.put o.dst v') w') :
    wpList P ops Q (o :: rest) a w := by
  obtain ⟨i, h2, h3, h4, h5⟩ := T.hi
  have hlen : n + m ≤ maxLen := by
    have := Nat.le_mul_of_pos_right (n + m) hpos
    unfold maxLen; omega
  obtain ⟨A', cap', hv, hl1, hl2, hcell⟩ := hr
  injection hv with hA hm hc
  subst hA; subst hc
  cases A with
  | none =>
    have h0 : m = 0 := by
      rcases Nat.eq_zero_or_pos m with h0 | h0
      · exact h0
      · obtain ⟨b, off, h, _⟩ := hcell h0; cases h
    subst h0
    have hn : news = [] := List.eq_nil_of_length_eq_zero (by omega)
    subst hn
    refine wpList_plain hgd fun K hK => ?_
    have hr := run_append_nil_src (P := P) w base t o.type e i size T.ht h2 v n xs hown c
    unfold Oper.wp execOp
    simp only [ho, resolve, invoke, builtin, Sem.run_bind, Sem.run_pure, Result.andThen_ok, List.map_toArray, List.map_cons, List.map_nil, hs, hx, hr]
    exact hK _ _ (h v w (by simpa using hown) (World.grownBy.refl w _) (.inl rfl))
  | some ad =>
    exact wpList_append_own_at w hgd s x t ho base e i z size bytes T.ht h2 h3 h4 h5 T.hz hsz v n xs hs hown ad m c news hx hl
      (fun j y hy => by
        have hj : 0 < m := by
          rcases Nat.eq_zero_or_pos m with h0 | h0
          · subst h0; have := (List.getElem?_eq_some_iff.1 hy).1; omega
          · exact h0
        obtain ⟨b, off, h, _, _, hcc⟩ := hcell hj
        injection h with h
        subst h
        rw [add_plain]
        exact hcc j y hy)
      h1 hlen hbytes hbase (fun v' w' a1 a2 _ a4 => h v' w' a1 a2 a4)
theorem grow_infol : (Tryd.prog.info? 63).map (fun i => (i.zero, i.size, i.bytes)) = some (some (Value.agg #[.int .i64 0, .int .i64 0, .bool false, .bool false]), 4, 24) := by kernel_rfl
set_option maxRecDepth 100000 in
set_option maxHeartbeats 1000000 in
theorem grow_leaf (n : Nat) (w : World) (hn : n ≤ 1000000) :
    Calls Tryd.prog 39 #[.slice none 0 0, .int .i64 (n : Int)] w fun e w' => ∃ v, e = .returned v ∧ w'.ownsRow w.heap.size 63 4 v 0 [] ∧ Below w.heap.size w w' := by
  by_cases h0 : n = 0
  · subst h0
    go_enter Tryd.func39, Tryd.ntmps39
    go_wp2
    go_ret
    exact ⟨_, rfl, ⟨rfl, .inl ⟨rfl, rfl⟩⟩, Below.refl _ _⟩
  · obtain ⟨i0, hi, hz0, hz1, hz2⟩ := info_parts grow_infol
    have hrz : ∀ ty, (Builtin.append_ #[58, 3] ty #[.slice none 0 0, .int .i64 (n : Int)]).run Tryd.prog w =
        .ok (.slice (some ⟨w.heap.size, 0, none⟩) n (grownCap w n 0 63)) (w.drew.alloc (.cells (Builtin.zeroCells (Value.agg #[.int .i64 0, .int .i64 0, .bool false, .bool false]).cells n ++ Builtin.zeroCells (Value.agg #[.int .i64 0, .int .i64 0, .bool false, .bool false]).cells (grownCap w n 0 63 - n)) 63)) := fun ty => by
      have h := Lib.run_append_grow_zeros w 58 3 ty 63 i0 (Value.agg #[.int .i64 0, .int .i64 0, .bool false, .bool false]) .i64 .i64 Tryd.underlying58 Tryd.underlying3 hi hz0 none 0 0 []
        (by rw [run_firstCells_none]) n (by omega) (by omega) (by omega) (by omega) (by rw [hz2]; omega)
        (growslice_fits (by omega) (by rw [hz2]; omega))
      simpa using h
    have hG := grownCap_ge w n 0 63
    have hG2 := grownCap_le_maxLen w n 0 63 (by unfold maxLen; omega)
    have hsz : (Builtin.zeroCells (Value.agg #[.int .i64 0, .int .i64 0, .bool false, .bool false]).cells n ++ Builtin.zeroCells (Value.agg #[.int .i64 0, .int .i64 0, .bool false, .bool false]).cells (grownCap w n 0 63 - n)).size = grownCap w n 0 63 * 4 := by
      have h1 : (Value.agg #[.int .i64 0, .int .i64 0, .bool false, .bool false]).cells.size = 4 := rfl
      simp [Builtin.zeroCells, h1]; omega
    generalize grownCap w n 0 63 = G at *
    generalize Builtin.zeroCells (Value.agg #[.int .i64 0, .int .i64 0, .bool false, .bool false]).cells n ++ Builtin.zeroCells (Value.agg #[.int .i64 0, .int .i64 0, .bool false, .bool false]).cells (G - n) = cs at *
    have hG63 : G ≤ 9223372036854775807 := by unfold maxLen at hG2; omega
    have HS := Lib.hid hsz
    have HG2 := Lib.hid hG2
    clear hsz hG2
    go_enter Tryd.func39, Tryd.ntmps39
    go_wp2_with (at_builtin; refine Lib.wpList_append_run _ rfl _ _ _ _ rfl _ _ rfl rfl _ _ (hrz _) ?_)
    go_ret
    refine ⟨_, rfl, ⟨rfl, .inr ⟨w.heap.size, G, cs, rfl, Nat.le_refl _, heap_alloc_new w.drew _, Nat.zero_le _, HG2.out, HS.out, by simp⟩⟩, ((Below.refl _ _).drew).alloc (Nat.le_refl _) _⟩
theorem flatten_take_succ' (Ls : List (List Leaf)) (k : Nat) (h : k < Ls.length) : (Ls.take (k + 1)).flatten = (Ls.take k).flatten ++ Ls[k] := by
  rw [List.take_succ_eq_append_getElem h, List.flatten_append]; simp
theorem flatten_take_le' (Ls : List (List Leaf)) (k : Nat) : (Ls.take k).flatten.length ≤ Ls.flatten.length := by
  conv => rhs; rw [← List.take_append_drop k Ls, List.flatten_append]
  simp
set_option maxHeartbeats 1000000 in
theorem concat_leaf (v : Value) (us : List Value) (Ls : List (List Leaf)) (w : World) (ok ok' : Nat → Prop) (hs : Sl w ok v us) (hl : us.length = Ls.length) (hin : ∀ i u, us[i]? = some u → Lv w ok' u (Ls.getD i []))
    (hbig : Ls.flatten.length ≤ 1000000) (hbig2 : Ls.length ≤ 1000000) :
    Calls Tryd.prog 31 #[v] w fun e w' => ∃ v', e = .returned v' ∧ w'.ownsRow w.heap.size 63 4 v' Ls.flatten.length (lcells Ls.flatten) ∧ Below w.heap.size w w' := by
  have hopen : ∀ k, k < Ls.length → ∃ (ad : Addr) (cap : Nat) (A : Option Addr) (c : Nat), v = .slice (some ad) Ls.length cap ∧ w.cell? (ad.add k) = some (.slice A (Ls.getD k []).length c) ∧ ad.block < w.heap.size ∧ SlM w ok' (.slice A (Ls.getD k []).length c) (Ls.getD k []).length (lcells (Ls.getD k [])) := by
    intro k hk
    obtain ⟨ad, cap, hv, _, hlt, hc⟩ := hs.open_ (by omega)
    have hu : us[k]? = some (us[k]'(by omega)) := List.getElem?_eq_getElem _
    have h1 := hc k _ hu
    have h2 := hin k _ hu
    generalize us[k]'(by omega) = u at *
    obtain ⟨A, c, rfl⟩ := SlM.form h2
    exact ⟨ad, cap, A, c, by rw [hv, hl], h1, hlt, h2⟩
  have HO := Lib.hid hopen
  obtain ⟨A0, cap0, rfl⟩ := hs.form
  rw [hl] at hopen hs HO ⊢
  clear hopen hin
  have hcap : Ls.length ≤ 9223372036854775807 := by omega
  go_enter Tryd.func31, Tryd.ntmps31
  go_wp2
  go_loop [3, 11] (fun vs vi => ∃ k : Nat, k ≤ Ls.length ∧ vi = .int .i64 k ∧ vs = .int .i64 ((Ls.take k).flatten.length : Nat)) (fun _ i => Ls.length - (intOf i).toNat)
  case atStart => exact ⟨0, by omega, rfl, by simp⟩
  case round =>
    obtain ⟨k, hk, rfl, rfl⟩ := hrel
    by_cases hlt : k < Ls.length
    · obtain ⟨ad, cap, A, c, hv, hcell, _, _⟩ := HO.out k hlt
      injection hv with hA _ hc
      subst hA; subst hc
      have hle := flatten_take_le' Ls (k + 1)
      have HE : Hid ((Ls.take (k + 1)).flatten.length = (Ls.take k).flatten.length + (Ls.getD k []).length) := by
        unfold Hid; rw [flatten_take_succ' _ _ hlt, List.length_append, List.getD_eq_getElem?_getD, List.getElem?_eq_getElem hlt]; rfl
      have hle2 : (Ls.take k).flatten.length + (Ls.getD k []).length ≤ 1000000 := by rw [← HE.out]; omega
      generalize (Ls.getD k []).length = q at *
      generalize (Ls.take k).flatten.length = p at *
      clear hle
      go_wp2
      go_round
      case rel => exact ⟨k + 1, by omega, by go_num, by rw [HE.out]; go_num⟩
      case measure => simp [intOf]; omega
    · obtain rfl : k = Ls.length := by omega
      rw [List.take_length]
      generalize hT : Ls.flatten.length = T at *
      have HT := Lib.hid hT
      clear hT
      go_wp2_with (go_at_call 39; refine (grow_leaf _ _ (by omega)).mono ?_; rintro e w1 ⟨v1, rfl, hown1, hb1⟩)
      have HO1 := Lib.hid hown1
      have HB1 := Lib.hid hb1
      clear hown1 hb1
      go_loopw [6, 27] (fun vo vi wr => ∃ k : Nat, k ≤ Ls.length ∧ vi = .int .i64 k ∧ wr.ownsRow w.heap.size 63 4 vo ((Ls.take k).flatten.length) (lcells (Ls.take k).flatten) ∧ Below w.heap.size w wr) (fun _ i _ => Ls.length - (intOf i).toNat)
      case atStart => exact ⟨0, by omega, rfl, by simpa [lcells] using HO1.out, HB1.out⟩
      case round =>
        obtain ⟨k, hk, rfl, hown, hb⟩ := hrel
        by_cases hlt : k < Ls.length
        · obtain ⟨ad, cap, A, c, hv, hcell, hblk, hsl⟩ := HO.out k hlt
          injection hv with hA _ hc
          subst hA; subst hc
          have hcell2 : wr.cell? (ad.add k) = _ := (hb.cell (p := ad.add k) (by rw [add_block]; exact hblk)).trans hcell
          have hsl2 := hsl.later hb
          have HSl := Lib.hid hsl2
          have HOw := Lib.hid hown
          have HBw := Lib.hid hb
          have hle := flatten_take_le' Ls (k + 1)
          have HE : Hid ((Ls.take (k + 1)).flatten = (Ls.take k).flatten ++ Ls.getD k []) := by
            unfold Hid; rw [flatten_take_succ' _ _ hlt, List.getD_eq_getElem?_getD, List.getElem?_eq_getElem hlt]; rfl
          have hle2 : (Ls.take k).flatten.length + (Ls.getD k []).length ≤ 1000000 := by rw [← List.length_append, ← HE.out]; have := HT.out; omega
          clear hcell hsl hsl2 hown hb hle
          generalize Ls.getD k [] = L at *
          generalize (Ls.take k).flatten = F at *
          go_wp2_with (at_builtin; go_must (refine wpList_append_slk eLeaf rfl (.tmp 31) (.tmp 32) rfl w.heap.size u6 F.length _ rfl HOw.out A L.length c (lcells L) ok' rfl HSl.out (lcells_length L) (lcells_ones L) (by omega) (by omega) (by omega) HBw.out.size ?_; intro v' w2 hown2 hg2 hk2))
          go_roundw
          case rel =>
            refine ⟨k + 1, by omega, by go_num, ?_, HBw.out.grown hg2 HBw.out.size fun g hg => (own_lt HOw.out g hg).1⟩
            rw [HE.out, lcells_append, List.length_append]; exact hown2
          case measure => simp [intOf]; omega
        · obtain rfl : k = Ls.length := by omega
          rw [List.take_length] at hown
          go_wp2
          go_ret
          exact ⟨_, rfl, by rw [← HT.out]; exact hown, hb⟩
end Go.Proofs.YtjmanooedgfbaaaDoor
