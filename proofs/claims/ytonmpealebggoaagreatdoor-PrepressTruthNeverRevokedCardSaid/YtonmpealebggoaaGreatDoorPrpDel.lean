/- The walk of Truth. The walk of slices.Clone at facts. slices.Delete of one element, at a row of facts of the call's own. -/
import Derived.Test.YtonmpealebggoaaGreatDoorPrpTrn
import Derived.Test.YtonmpealebggoaaGreatDoorPrpPlain
import Derived.Deep.RegionLaw
import Derived.Deep.RegionHeld3
namespace Go.Proofs.YtonmpealebggoaaGreatDoor
open Go.RowKit Pr
/-- What Truth answers. -/
def trutE (r : Rl) (l : List Ft) : Int × Int := if checkE [r] ≠ 0 then (0, checkE [r]) else if factsE l ≠ 0 then (0, factsE l) else (truthF 12 l r.2, 0)
theorem rls_one {W : World} {g : Nat} {t : TypeId} {P : Nat → Prop} {r : Rl} {u : V5} (h : Blk W g t #[.string (Bs r.1), u.k, u.t, u.c, u.n, u.d]) (hp : P g) (hu : CdV P W u r.2) (hn : r.1.length ≤ maxLen) : RlsV P W (.slice (some ⟨g, 0, none⟩) 1 1) [r] :=
  ⟨[u], rfl, ⟨_, 1, rfl, Nat.le_refl _, by simp [maxLen], fun _ => ⟨g, 0, rfl, hp, h.lt, fun k x hx => by rw [Nat.zero_add, h.cell k]; simpa [rcells, rcell, V5.cells] using hx⟩⟩, fun j h1 h2 => by
    match j, h1 with
    | 0, _ => exact hu, fun x hx => by
    obtain rfl : x = r := by simpa using hx
    exact hn⟩
set_option maxRecDepth 100000 in
set_option maxHeartbeats 8000000 in
theorem Truth_any (r : Rl) (u : V5) (l : List Ft) (fv : Value) (P Q : Nat → Prop) (w : World) (hu : CdV P w u r.2) (hn : r.1.length ≤ maxLen) (hf : FtsM Q w fv l) (hT : Tabs w) :
    Calls Tryz.prog 6 #[.agg #[.string (Bs r.1), u.k, u.t, u.c, u.n, u.d], fv] w fun e w' => e = .returned (.tuple #[.int .i64 (trutE r l).1, .int .i64 (trutE r l).2]) ∧ Below w.heap.size w w' := by
  have HE : Hid (trutE r l = if checkE [r] ≠ 0 then (0, checkE [r]) else if factsE l ≠ 0 then (0, factsE l) else (truthF 12 l r.2, 0)) := rfl
  generalize trutE r l = TE at *
  have HF := Lib.hid (fun W (hW : Below w.heap.size w W) => facts_any l fv Q W ⟨hf.1.later hW, hf.2⟩)
  have HTr := Lib.hid (fun (h0 : checkE [r] = 0) (h1 : factsE l = 0) W (hW : Below w.heap.size w W) => truth_all 12 r.2 l u fv P Q W ((rules_ok (check_ok h0).2.1 r (by simp)).cd) (hu.later hW) (hf.later hW) (factsE_zero.1 h1))
  have HCk : Hid (∀ g W, Below w.heap.size w W → Blk W g 27 #[.string (Bs r.1), u.k, u.t, u.c, u.n, u.d] → Calls Tryz.prog 12 #[.slice (some ⟨g, 0, none⟩) 1 1] W fun e w' => e = .returned (.int .i64 (checkE [r])) ∧ Below W.heap.size W w') := fun g W hW hb =>
    check_any [r] _ (fun _ => True) W (rls_one hb trivial ((hu.later hW).mono fun _ _ _ => trivial) hn) (hT.later hW)
  obtain ⟨fA, fc, rfl⟩ := hf.1.form
  obtain ⟨tv, dv, vs, rfl, ht, hd, -⟩ := hu.open_
  obtain ⟨A1, c1, rfl⟩ := ht.form
  obtain ⟨A2, c2, rfl⟩ := hd.form
  clear hu hf ht hd hT
  dsimp only [V5.val] at *
  generalize l.length = fn at *
  generalize Bs r.1 = NM at *
  generalize r.2.terms.length = n1 at *
  generalize r.2.kids.length = n2 at *
  generalize r.2.kind = k0 at *
  generalize r.2.cmp = k2 at *
  generalize r.2.than = k3 at *
  generalize checkE [r] = ce at *
  generalize factsE l = fe at *
  generalize truthF 12 l r.2 = t at *
  have hb1 := Blk.new w 27 #[.string NM, .int .i64 k0, .slice A1 n1 c1, .int .i64 k2, .int .i64 k3, .slice A2 n2 c2]
  have hb2 := Blk.new (w.alloc (.cells #[.string NM, .int .i64 k0, .slice A1 n1 c1, .int .i64 k2, .int .i64 k3, .slice A2 n2 c2] 27)) 27 #[.string NM, .int .i64 k0, .slice A1 n1 c1, .int .i64 k2, .int .i64 k3, .slice A2 n2 c2]
  rw [show (w.alloc (.cells #[.string NM, .int .i64 k0, .slice A1 n1 c1, .int .i64 k2, .int .i64 k3, .slice A2 n2 c2] 27)).heap.size = w.heap.size + 1 by simp] at hb2
  have hbx : Below w.heap.size w ((w.alloc (.cells #[.string NM, .int .i64 k0, .slice A1 n1 c1, .int .i64 k2, .int .i64 k3, .slice A2 n2 c2] 27)).alloc (.cells #[.string NM, .int .i64 k0, .slice A1 n1 c1, .int .i64 k2, .int .i64 k3, .slice A2 n2 c2] 27)) := ((Below.refl _ _).alloc (Nat.le_refl _) _).alloc (by simp) _
  have HCx := Lib.hid (HCk.out _ _ hbx hb2)
  have HB1 := Lib.hid (hb1.alloc (.cells #[.string NM, .int .i64 k0, .slice A1 n1 c1, .int .i64 k2, .int .i64 k3, .slice A2 n2 c2] 27))
  have HBx := Lib.hid hbx
  clear hb1 hb2 hbx HCk
  go_enter Tryz.func6, Tryz.ntmps6
  go_wp2_with fail
  generalize (w.alloc (.cells #[.string NM, .int .i64 k0, .slice A1 n1 c1, .int .i64 k2, .int .i64 k3, .slice A2 n2 c2] 27)).alloc (.cells #[.string NM, .int .i64 k0, .slice A1 n1 c1, .int .i64 k2, .int .i64 k3, .slice A2 n2 c2] 27) = w1 at *
  refine HCx.out.mono ?_
  rintro e w2 ⟨rfl, hb2⟩
  have HB2 := Lib.hid (HBx.out.trans (hb2.mono HBx.out.size))
  have HK2 := Lib.hid (HB1.out.below hb2 HB1.out.lt)
  clear hb2 HCx HB1 HBx
  by_cases h0 : ce = 0
  case neg =>
    have u0 : (ce != 0) = true := by rw [bne_iff_ne]; exact h0
    have HR := Lib.hid (show TE = (0, ce) by rw [HE.out, if_pos h0])
    clear h0
    go_wp2_with fail
    go_ret2
    exact ⟨by rw [HR.out]; rfl, HB2.out⟩
  have u0 : (ce != 0) = false := by rw [bne_eq_false_iff_eq]; exact h0
  have HE2 := Lib.hid (show TE = if fe ≠ 0 then (0, fe) else (t, 0) by rw [HE.out, if_neg (by simpa using h0)])
  have HTr2 := Lib.hid (HTr.out h0)
  have HF2 := Lib.hid (HF.out w2 HB2.out)
  clear h0 HE HTr HF
  go_wp2_with fail
  refine HF2.out.mono ?_
  rintro e w3 ⟨rfl, hb3⟩
  have HB3 := Lib.hid (HB2.out.trans (hb3.mono HB2.out.size))
  have HK3 := Lib.hid (HK2.out.below hb3 HK2.out.lt)
  clear hb3 HF2 HK2 HB2
  by_cases h1 : fe = 0
  case neg =>
    have u1 : (fe != 0) = true := by rw [bne_iff_ne]; exact h1
    have HR := Lib.hid (show TE = (0, fe) by rw [HE2.out, if_pos h1])
    clear h1
    go_wp2_with fail
    go_ret2
    exact ⟨by rw [HR.out]; rfl, HB3.out⟩
  have u1 : (fe != 0) = false := by rw [bne_eq_false_iff_eq]; exact h1
  have HR := Lib.hid (show TE = (t, 0) by rw [HE2.out, if_neg (by simpa using h1)])
  have HTr3 := Lib.hid (HTr2.out h1 w3 HB3.out)
  obtain ⟨x0, x1, x2, x3, x4, x5⟩ := b6_cells HK3.out
  have xl := HK3.out.lt
  clear h1 HE2 HTr2 HK3
  go_wp2_with fail
  refine HTr3.out.mono ?_
  rintro e w4 ⟨rfl, hb4⟩
  have HB4 := Lib.hid (HB3.out.trans (hb4.mono HB3.out.size))
  clear hb4
  go_wp2_with fail
  go_ret2
  exact ⟨by rw [HR.out]; rfl, HB4.out⟩
end Go.Proofs.YtonmpealebggoaaGreatDoor
namespace Go.Proofs.YtonmpealebggoaaGreatDoor
open Go.RowKit Pr
theorem eFt : ElemK Tryz.prog 77 30 (.agg #[.string ⟨#[]⟩, .int .i64 0]) 2 24 := ElemK.mk_ Tryz.underlying77 (by kernel_rfl) rfl
theorem fcells_len (l : List Ft) : (fcells l).length = l.length * 2 := flat_length flen l
theorem fcells_one (l : List Ft) : ∀ u ∈ fcells l, u.oneCell' = true := by
  intro u hu
  unfold fcells at hu
  obtain ⟨x, _, hx⟩ := List.mem_flatMap.1 hu
  simp only [fcell, List.mem_cons, List.not_mem_nil, or_false] at hx
  rcases hx with rfl | rfl <;> rfl
set_option maxRecDepth 100000 in
set_option maxHeartbeats 8000000 in
theorem clone_any (l : List Ft) (v : Value) (P : Nat → Prop) (w : World) (h : FtsM P w v l) (hl : l.length ≤ 1000) :
    Calls Tryz.prog 67 #[v] w fun e w' => ∃ v', e = .returned v' ∧ w'.ownsRow w.heap.size 30 2 v' l.length (fcells l) ∧ Below w.heap.size w w' := by
  have hq : ∀ (w : World) (a : Option Addr) (n c n' c' : Nat), (binOp .eql 77 (.slice a n c) (.slice none n' c')).run Tryz.prog w = .ok (.bool a.isNone) w := fun w a n c n' c' => Lib.run_eql_slice_nil w _ _ a n c n' c' Tryz.underlying77
  obtain ⟨A, cap, rfl⟩ := h.1.form
  have hcp := h.1.caps
  cases A with
  | none =>
    have h0 : l.length = 0 := by
      rcases Nat.eq_zero_or_pos l.length with h0 | h0
      · exact h0
      · obtain ⟨b, off, e, _⟩ := h.1.addr h0; cases e
    have hl0 : l = [] := List.eq_nil_of_length_eq_zero h0
    subst hl0
    clear h
    go_enter Tryz.func67, Tryz.ntmps67
    go_wp2_with fail
    go_ret
    exact ⟨_, rfl, ⟨rfl, .inl ⟨rfl, rfl⟩⟩, Below.refl _ _⟩
  | some ad =>
    have HM := Lib.hid h
    have hlen := fcells_len l
    have HL := Lib.hid hlen
    have HO := Lib.hid (fcells_one l)
    have hown : (w.alloc (.cells #[] 30)).ownsRow w.heap.size 30 2 (.slice (some ⟨w.heap.size, 0, none⟩) 0 0) 0 [] := ⟨rfl, .inr ⟨w.heap.size, 0, #[], rfl, Nat.le_refl _, heap_alloc_new w _, Nat.le_refl _, by simp [maxLen], rfl, rfl⟩⟩
    have HOw := Lib.hid hown
    have HCell : Hid (∀ j u, (fcells l)[j]? = some u → (w.alloc (.cells #[] 30)).cell? (ad.add j) = some u) := by
      intro j u hu
      have hn : 0 < l.length := by
        have := (List.getElem?_eq_some_iff.1 hu).1
        omega
      obtain ⟨b, off, e, -, hb, hc⟩ := h.1.addr hn
      injection e with e
      subst e
      rw [add_plain, World.cell?_of_block (w := w) (Below.heap_alloc w _ b hb)]
      exact hc j u hu
    clear h hlen hown
    generalize hn : l.length = n at *
    generalize fcells l = xs at *
    clear HM
    go_enter Tryz.func67, Tryz.ntmps67
    obtain ⟨i, h2, h3, h4, h5⟩ := eFt.hi
    go_wp2_with (at_builtin; go_must (refine wpList_append_own_at _ rfl (.tmp 5) (.tmp 6) 77 rfl w.heap.size 30 i (.agg #[.string ⟨#[]⟩, .int .i64 0]) 2 24 eFt.ht h2 h3 h4 h5 eFt.hz (by omega) (.slice (some ⟨w.heap.size, 0, none⟩) 0 0) 0 [] rfl HOw.out ad n cap xs rfl (by rw [HL.out]) HCell.out HO.out (by unfold maxLen; omega) (by omega) (by simp) ?_); go_must (intro v' w11 a1 a2 _ a4; have HO11 := Lib.hid a1; have HG11 := Lib.hid a2; obtain ⟨A', c', rfl⟩ := own_form a1; clear a1 a2 a4))
    go_ret
    refine ⟨_, rfl, ?_, ?_⟩
    · have := HO11.out
      simpa using this
    · exact ⟨HG11.out.os, HG11.out.tape, HG11.out.output, by have := HG11.out.size; simp at this; omega, fun k hk => (HG11.out.block k (by simp; omega) (by simp [Value.ownBlock]; omega)).trans (Below.heap_alloc w _ k hk)⟩
end Go.Proofs.YtonmpealebggoaaGreatDoor
namespace Go.Proofs.YtonmpealebggoaaGreatDoor
open Go.RowKit Pr
theorem own_cells {w : World} {base size n : Nat} {t : TypeId} {v : Value} {xs : List Value} (h : w.ownsRow base t size v n xs) (hn : 0 < n) :
    ∃ g cap, v = .slice (some ⟨g, 0, none⟩) n cap ∧ base ≤ g ∧ g < w.heap.size ∧ (∀ k u, xs[k]? = some u → w.cell? ⟨g, k, none⟩ = some u) ∧ ∀ k, w.frozen? ⟨g, k, none⟩ = false := by
  have hb := own_lt h
  have hs := SlM.of_own h
  obtain ⟨hl, h⟩ := h
  rcases h with ⟨rfl, rfl⟩ | ⟨g, cap, cur, rfl, hg, hh, hnc, hcm, hsz', hx⟩
  · omega
  · obtain ⟨b, off, e, _, _, hc⟩ := SlM.addr hs hn
    injection e with e
    injection e with e1 e2
    subst e1; subst e2
    exact ⟨g, cap, rfl, hg, (hb g rfl).2, fun k u hu => by have := hc k u hu; rwa [Nat.zero_add] at this, fun k => by simp [World.frozen?, hh]⟩
theorem own_putk {w : World} {base g n cap k size : Nat} {t : TypeId} {xs : List Value} (h : w.ownsRow base t size (.slice (some ⟨g, 0, none⟩) n cap) n xs) (u : Value) : (w.setCell ⟨g, k, none⟩ u).ownsRow base t size (.slice (some ⟨g, 0, none⟩) n cap) n (xs.set k u) := by
  obtain ⟨hl, h⟩ := h
  refine ⟨by simpa using hl, ?_⟩
  rcases h with ⟨e, _⟩ | ⟨g', cap', cur, e, hg, hh, hn, hc, hs, hx⟩
  · cases e
  · injection e with e1 _ e3
    injection e1 with e1
    injection e1 with e1
    subst e1; subst e3
    refine .inr ⟨g, cap, cur.setIfInBounds k u, rfl, hg, ?_, hn, hc, by simpa using hs, ?_⟩
    · simp [World.setCell, Array.getElem?_modify, hh]
    · rw [Array.toList_setIfInBounds, List.take_set, hx]
theorem own_same {w w' : World} {base n size : Nat} {e : TypeId} {v : Value} {xs : List Value} (h : w.ownsRow base e size v n xs) (hf : ∀ x, v.ownBlock = some x → w'.heap[x]? = w.heap[x]?) : w'.ownsRow base e size v n xs := by
  rcases h with ⟨hl, h⟩
  refine ⟨hl, ?_⟩
  rcases h with h | ⟨g, cap, cur, rfl, hg, hh, r⟩
  · exact .inl h
  · exact .inr ⟨g, cap, cur, rfl, hg, (hf g rfl).trans hh, r⟩
theorem setCells_other (g : Nat) : ∀ (vs : List Value) (o : Nat) (w : World) (k : Nat), k ≠ g → (w.setCells g o vs).heap[k]? = w.heap[k]?
  | [], _, _, _, _ => rfl
  | v :: r, o, w, k, h => by
    rw [World.setCells, setCells_other g r (o + 1) _ k h]
    exact Below.heap_setCell w ⟨g, o, none⟩ v k h
theorem setCells_rest (g : Nat) : ∀ (vs : List Value) (o : Nat) (w : World), (w.setCells g o vs).os = w.os ∧ (w.setCells g o vs).tape = w.tape ∧ (w.setCells g o vs).output = w.output ∧ (w.setCells g o vs).heap.size = w.heap.size
  | [], _, _ => ⟨rfl, rfl, rfl, rfl⟩
  | v :: r, o, w => by
    obtain ⟨a, b, c, d⟩ := setCells_rest g r (o + 1) (w.setCell ⟨g, o, none⟩ v)
    have h := (Below.refl 0 w).setCell (p := ⟨g, o, none⟩) (Nat.zero_le _) v
    exact ⟨a.trans h.os, b.trans h.tape, c.trans h.output, d.trans (by simp [World.setCell])⟩
theorem setCells_frs {R g : Nat} {S : Nat → Prop} {a w : World} (h : FrS R S a w) (hg : R ≤ g ∨ S g) (o : Nat) (vs : List Value) : FrS R S a (w.setCells g o vs) := by
  obtain ⟨e1, e2, e3, e4⟩ := setCells_rest g vs o w
  refine ⟨e1.trans h.os, e2.trans h.tape, e3.trans h.output, by rw [e4]; exact h.size, fun k hk hs => ?_⟩
  rw [setCells_other g vs o w k fun e => ?_]
  · exact h.block k hk hs
  · rcases hg with hg | hg
    · omega
    · exact hs (e ▸ hg)
/-- The builtin clear at the end of a row of the call's own. -/
theorem run_clear_own {P : Program} {w : World} {t e : TypeId} {z : Value} {size bytes : Nat} (T : ElemK P t e z size bytes) (hzr : ∀ w, (zeroValue e).run P w = .ok z w) (hzn : ∀ m, ∀ v ∈ (Builtin.zeroCells z.cells m).toList, v.oneCell' = true)
    {base g n cap : Nat} {xs : List Value} (hown : w.ownsRow base e size (.slice (some ⟨g, 0, none⟩) n cap) n xs) {k : Nat} (hk : k < n) :
    ∃ w', (∀ ty c, (Builtin.clear_ #[t] ty #[.slice (some ⟨g, k * size, none⟩) (n - k) c]).run P w = .ok (.tuple #[]) w') ∧ w'.ownsRow base e size (.slice (some ⟨g, 0, none⟩) k cap) k (xs.take (k * size)) ∧ w.grownBy w' (some g) := by
  obtain ⟨hxl, hxs⟩ := hown
  rcases hxs with ⟨hv, _⟩ | ⟨g', cap', cur, hv, hb, hg, hnc, hcm, hcs, hx⟩
  · cases hv
  · injection hv with e1 _ e2
    injection e1 with e1
    injection e1 with e1
    subst e1; subst e2
    have hzl : (Builtin.zeroCells z.cells (n - k)).toList.length = (n - k) * size := by
      simp [Builtin.zeroCells, T.hz]
    have hle : k * size + (n - k) * size = n * size := by rw [← Nat.add_mul]; congr 1; omega
    have hle2 : n * size ≤ cap * size := Nat.mul_le_mul_right _ hnc
    have hst := run_storeCells_at P g (k * size) e (Builtin.zeroCells z.cells (n - k)).toList 0 cur w hg (by rw [hzl, hcs]; omega) (hzn _)
    generalize hzs : (Builtin.zeroCells z.cells (n - k)).toList = zs at *
    refine ⟨w.setRow g (cur.toList.take (k * size + 0) ++ zs ++ cur.toList.drop (k * size + 0 + zs.length)).toArray, fun ty c => ?_, ⟨?_, .inr ⟨g, cap, (cur.toList.take (k * size + 0) ++ zs ++ cur.toList.drop (k * size + 0 + zs.length)).toArray, rfl, hb, setRow_heap w g _ _ e _ hg, by omega, hcm, ?_, ?_⟩⟩, ⟨rfl, rfl, rfl, by simp [World.setRow], fun j hj hne => setRow_other w g j _ (fun e => hne (by rw [e]))⟩⟩
    · obtain ⟨m, hm⟩ : ∃ m, n - k = m + 1 := ⟨n - k - 1, by omega⟩
      rw [hm] at hzs ⊢
      simp [Builtin.clear_, run_underlying T.ht, hzr, hzs, hst]
    · rw [List.length_take, hxl]; omega
    · have hcl : cur.toList.length = cap * size := by simpa using hcs
      simp only [List.size_toArray, List.length_append, List.length_take, List.length_drop, hzl, Nat.add_zero]
      omega
    · have hcl : cur.toList.length = cap * size := by simpa using hcs
      rw [← hx, List.take_take, Nat.min_eq_left (by omega)]
      simp only [Nat.add_zero]
      rw [List.append_assoc, List.take_append_of_le_length (by rw [List.length_take]; omega), List.take_take, Nat.min_eq_left (Nat.le_refl _)]
/-- Some cells of a row of the call's own written. -/
theorem own_setCells {base g n cap size : Nat} {e : TypeId} : ∀ (vs : List Value) (o : Nat) (w : World) (xs : List Value), w.ownsRow base e size (.slice (some ⟨g, 0, none⟩) n cap) n xs → o + vs.length ≤ xs.length →
    (w.setCells g o vs).ownsRow base e size (.slice (some ⟨g, 0, none⟩) n cap) n (xs.take o ++ vs ++ xs.drop (o + vs.length))
  | [], o, w, xs, h, _ => by simpa [World.setCells] using h
  | v :: r, o, w, xs, h, ho => by
    simp only [List.length_cons] at ho
    have := own_setCells r (o + 1) _ _ (own_putk (k := o) h v) (by simp; omega)
    rw [World.setCells]
    have e : (xs.set o v).take (o + 1) ++ r ++ (xs.set o v).drop (o + 1 + r.length) = xs.take o ++ v :: r ++ xs.drop (o + (v :: r).length) := by
      rw [List.drop_set_of_lt (by omega), List.take_add_one, List.take_set_of_le (Nat.le_refl _), List.getElem?_set_self (by omega)]
      simp [Nat.add_comm, Nat.add_left_comm]
    rwa [e] at this
theorem insRowF : (Tryz.prog.info? 30).map (fun i => (i.zero, i.size, i.bytes)) = some (some (Value.agg #[.string ⟨#[]⟩, .int .i64 0]), 2, 24) := by kernel_rfl
set_option maxRecDepth 100000 in
set_option maxHeartbeats 4000000 in
/-- slices.Delete of one element at a row of the call's own. -/
theorem delF (B g n cap i : Nat) (xs : List Value) (w : World) (hown : w.ownsRow B 30 2 (.slice (some ⟨g, 0, none⟩) n cap) n xs) (hi : i < n) (h1x : ∀ v ∈ xs, v.oneCell' = true) :
    Calls Tryz.prog 68 #[.slice (some ⟨g, 0, none⟩) n cap, .int .i64 i, .int .i64 ((i : Int) + 1)] w fun e w' => e = .returned (.slice (some ⟨g, 0, none⟩) (n - 1) cap) ∧
      w'.ownsRow B 30 2 (.slice (some ⟨g, 0, none⟩) (n - 1) cap) (n - 1) (xs.take (i * 2) ++ xs.drop ((i + 1) * 2)) ∧ FrS w.heap.size (fun k => k = g) w w' := by
  obtain ⟨i0, hi0, hz0, hz1, hz2⟩ := info_parts insRowF
  have hxl := hown.1
  have hgl := (own_lt hown g rfl).2
  have hcaps := (SlM.caps (SlM.of_own hown)).2
  unfold maxLen at hcaps
  obtain ⟨hnc, hcm⟩ := hcaps
  have hcs := (own_cells hown (by omega))
  obtain ⟨g', cap', ev, -, -, hcell, hfz⟩ := hcs
  injection ev with e1 _ e2
  injection e1 with e1
  injection e1 with e1
  subst e1; subst e2
  obtain ⟨news, hnews⟩ : ∃ news, news = xs.drop ((i + 1) * 2) := ⟨_, rfl⟩
  have hlen : news.length = (n - (i + 1)) * 2 := by rw [hnews, List.length_drop, hxl]; omega
  have hget : ∀ t u, news[t]? = some u → w.cell? ⟨g, (i + 1) * 2 + t, none⟩ = some u := fun t u hu => by
    rw [hnews, List.getElem?_drop] at hu
    exact hcell _ _ hu
  obtain ⟨A, hA, hsrc⟩ : ∃ A : Addr, (if cap = i + 1 then (some ⟨g, 0, none⟩ : Option Addr) else some ⟨g, (i + 1) * 2, none⟩) = some A ∧ Hid (∀ t u, news[t]? = some u → w.drew.cell? (A.add t) = some u) := by
    by_cases h : cap = i + 1
    · refine ⟨⟨g, 0, none⟩, by simp [h], fun t u hu => ?_⟩
      have h0 : news.length = 0 := by rw [hlen]; omega
      rw [List.length_eq_zero_iff.1 h0] at hu
      simp at hu
    · refine ⟨⟨g, (i + 1) * 2, none⟩, by simp [h], fun t u hu => ?_⟩
      rw [add_plain]
      have := hget t u hu
      rw [show (i + 1) * 2 = (i + 1) * 2 by omega] at this
      exact this
  have s1 : Hid (news.length = (n - (i + 1)) * 2) := hlen
  have s2 : Hid (∀ u ∈ news, u.oneCell' = true) := fun u hu => h1x u (by rw [hnews] at hu; exact List.mem_of_mem_drop hu)
  have s3 : Hid (∀ t, t < news.length → (w.drew.cell? ⟨g, 0 + i * 2 + t, none⟩).isSome = true ∧ w.drew.frozen? ⟨g, 0 + i * 2 + t, none⟩ = false) := fun t ht => by
    rw [hlen] at ht
    rw [Nat.zero_add]
    refine ⟨?_, hfz _⟩
    have h7 : xs[i * 2 + t]? = some (xs[i * 2 + t]'(by omega)) := List.getElem?_eq_getElem _
    show (w.cell? _).isSome = true
    rw [hcell _ _ h7]; rfl
  obtain ⟨W1, hW1⟩ : ∃ W1, W1 = w.drew.setCells g (0 + i * 2) news := ⟨_, rfl⟩
  have ho1 : W1.ownsRow B 30 2 (.slice (some ⟨g, 0, none⟩) n cap) n (xs.take (i * 2) ++ news ++ xs.drop (i * 2 + news.length)) := by
    have h := own_setCells news (i * 2) w.drew xs (own_same hown fun _ _ => rfl) (by rw [hlen, hxl]; omega)
    rw [hW1, Nat.zero_add]; exact h
  have hf1 : FrS w.heap.size (fun k => k = g) w W1 := by
    rw [hW1]
    exact setCells_frs (FrS.refl w.heap.size (fun k => k = g) w).drew (.inr rfl) _ _
  obtain ⟨W2, hrun, ho2, hg2⟩ := run_clear_own eFt (fun w => by kernel_rfl) (fun m v hv => by
    simp only [Builtin.zeroCells, Array.toList_map, List.mem_map] at hv
    obtain ⟨j, _, rfl⟩ := hv
    show (#[Value.string ⟨#[]⟩, .int .i64 0][j % 2]!).oneCell' = true
    have hj : j % 2 < 2 := Nat.mod_lt _ (by omega)
    generalize j % 2 = q at hj
    rcases (show q = 0 ∨ q = 1 by omega) with h | h <;> subst h <;> rfl) ho1 (k := n - 1) (by omega)
  have ht : (xs.take (i * 2) ++ news ++ xs.drop (i * 2 + news.length)).take ((n - 1) * 2) = xs.take (i * 2) ++ xs.drop ((i + 1) * 2) := by
    rw [← hnews]
    apply List.take_left'
    rw [List.length_append, List.length_take, hlen, hxl]; omega
  rw [ht] at ho2
  have hf2 : FrS w.heap.size (fun k => k = g) w W2 := hf1.trans ⟨hg2.os, hg2.tape, hg2.output, hg2.size, fun k hk hne => hg2.block k (Nat.lt_of_lt_of_le hk hf1.size) fun e => hne (by injection e)⟩
  have HO2 := Lib.hid ho2
  have HF2 := Lib.hid hf2
  have hW : Hid (W1 = w.drew.setCells g (0 + i * 2) news) := hW1
  have hrn : ∀ ty, (Builtin.clear_ #[77] ty #[.slice (some ⟨g, (n - 1) * 2, none⟩) (n - (n - 1)) (cap - (n - 1))]).run Tryz.prog W1 = .ok (.tuple #[]) W2 := fun ty => by
    have := hrun ty (cap - (n - 1))
    skip
    exact this
  clear hcell hfz hnews hlen hget hW1 ho1 hf1 hrun ho2 hg2 ht hf2 hown hxl h1x
  have hw1 : IntKind.i64.wrap ((i : Int) + 1) = (i : Int) + 1 := by rw [IntKind.wrap_i64]; omega
  have hb1 : (0 : Int) ≤ (i : Int) + 1 := by omega
  have hb2 : (i : Int) + 1 ≤ (n : Int) := by omega
  have hb3 : (i : Int) ≤ (i : Int) + 1 := by omega
  have htn : ((i : Int) + 1).toNat = i + 1 := by omega
  have hne : ¬ ((i : Int) = (i : Int) + 1) := by omega
  have hic : i ≤ cap := by omega
  have hin : i ≤ n := by omega
  have hq : i + (n - (i + 1)) = n - 1 := by omega
  have hq2 : ¬ (cap = n - 1) := by omega
  have hq3 : n - 1 ≤ n := by omega
  have hq4 : n ≤ cap := by omega
  go_enter Tryz.func68, Tryz.ntmps68
  go_wp2_with fail
  go_region_law (refine step_append_room rfl (.tmp 22) (.tmp 25) 77 rfl 30 i0 2 Tryz.underlying77 hi0 hz1 g 0 i cap (by simp [Act.eval, Act.put]) A (n - (i + 1)) (cap - (i + 1)) news (by simp [Act.eval, Act.put]) s1.out hsrc.out s2.out (by omega) s3.out ?_; rw [← hW.out])
  go_wp2
  go_ret
  exact ⟨rfl, HO2.out, HF2.out⟩
end Go.Proofs.YtonmpealebggoaaGreatDoor
