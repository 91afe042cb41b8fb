/- The law of Merge walked. -/
import Derived.Test.YthbdhijkdldmoaaGreatDoorObjLw3
import Derived.Test.YthbdhijkdldmoaaGreatDoorObjMrg
import Derived.Deep.DeepCutAuto
import Derived.Deep.CutBlock
import Derived.Deep.RegionHeldLaw
namespace Go.Proofs.YthbdhijkdldmoaaGreatDoor
open Go.RowKit Tk Ob
theorem getF_dict {o : Ox} (h0 : checkO o = 0) (h7 : o.kind = 7) (k : Tk.Src) : getF o [k] = match look o k with | none => .error 8 | some x => .ok x := by
  unfold getF; rw [if_neg (by rw [h0]; simp), get_dict h7]
  cases look o k <;> rfl
theorem look_mem {o : Ox} (hs : Sorted o.keys) (k : Tk.Src) : (k ∈ o.keys → ∃ x, look o k = some x) ∧ (k ∉ o.keys → look o k = none) := by
  refine ⟨fun h => ?_, fun h => ?_⟩
  · obtain ⟨j, hj, _, hp⟩ := pos_mem hs h
    exact ⟨o.kids.getD j Ox.zero, by unfold look lookK; rw [hp]; simp⟩
  · unfold look lookK
    rw [if_neg fun h' => h (pos_true h')]
/-- What the law asks of the plain functions: the errors; the entries. -/
theorem merge_err {a b : Ox} {e : Int} (h : mergeF a b = .error e) : e ≠ 0 ∧ (checkO a = 0 → checkO b = 0 → a.kind = 7 → b.kind = 7 → e = 2) := by
  unfold mergeF at h
  split at h
  · rename_i h1; cases h; exact ⟨h1, fun h => absurd h h1⟩
  split at h
  · rename_i h1; cases h; exact ⟨h1, fun _ h => absurd h h1⟩
  split at h
  · rename_i h1; cases h; exact ⟨by decide, fun _ _ h2 h3 => by omega⟩
  split at h
  · rename_i h1 h2 h3 h4
    cases h
    refine ⟨h4, fun ha hb h7 h7b => ?_⟩
    rcases (merge_law ha hb h7 h7b).1 with h5 | h5
    · exact absurd h5 h4
    · exact h5
  · cases h
theorem merge_facts5 {a b m : Ox} (h : mergeF a b = .ok m) : Ad m ∧ Ad a ∧ Ad b ∧
    (∀ k ∈ m.keys, ∃ x, getF m [k] = .ok x ∧ (getF b [k] = .ok x ∨ (getF b [k] = .error 8 ∧ getF a [k] = .ok x))) ∧ ∀ k ∈ a.keys ++ b.keys, ∃ x, getF m [k] = .ok x := by
  unfold mergeF at h
  split at h
  · cases h
  split at h
  · cases h
  split at h
  · cases h
  split at h
  · cases h
  rename_i h1 h2 h3 h4
  cases h
  have h1 : checkO a = 0 := by simpa using h1
  have h2 : checkO b = 0 := by simpa using h2
  have h4 : checkO (mergeL b.keys b.kids a) = 0 := by simpa using h4
  have ha7 : a.kind = 7 := by omega
  have hb7 : b.kind = 7 := by omega
  obtain ⟨-, hm7, hmem, hlook⟩ := merge_law h1 h2 ha7 hb7
  have hma := check_ad h4
  have hsm := hma.small.2.2
  have hsa := (check_ad h1).small.2.2
  have hsb := (check_ad h2).small.2.2
  refine ⟨hma, check_ad h1, check_ad h2, fun k hk => ?_, fun k hk => ?_⟩
  · obtain ⟨x, hx⟩ := (look_mem hsm k).1 hk
    refine ⟨x, by rw [getF_dict h4 hm7, hx], ?_⟩
    have hl := hlook k
    rw [hx] at hl
    rw [getF_dict h2 hb7, getF_dict h1 ha7]
    by_cases hkb : k ∈ b.keys
    · obtain ⟨y, hy⟩ := (look_mem hsb k).1 hkb
      rw [hy] at hl ⊢
      cases hl
      exact .inl rfl
    · have hy := (look_mem hsb k).2 hkb
      rw [hy] at hl ⊢
      dsimp only at hl
      rw [← hl]
      exact .inr ⟨rfl, rfl⟩
  · obtain ⟨x, hx⟩ := (look_mem hsm k).1 ((hmem k).2 ((List.mem_append.1 hk).symm))
    exact ⟨x, by rw [getF_dict h4 hm7, hx]⟩
/-- append of a whole slice as a step of a region that draws its order. -/
theorem step_append_slf {P : Program} {w : World} {ops : Array Oper} {o : Oper} {a : Act} {K : Act → World → Prop} {Q : Exit → Act → World → Prop} {E : Prop} {t e : TypeId} {z : Value} {bytes : Nat} (T : ElemT P t e z bytes) (hgd : o.guard = none) (s x : Operand)
    (ho : o.op = .call { callee := .builtin .append, args := #[s, x], argTypes := #[t, t] })
    (base : Nat) (v : Value) (n : Nat) (xs : List Value) (hs : a.eval s = v) (hown : w.ownsRow base e 1 v n xs)
    (A : Option Addr) (m c : Nat) (news : List Value) (ok : Nat → Prop) (hx : a.eval x = .slice A m c) (hr : Sl w ok (.slice A m c) news) (h1 : ∀ u ∈ news, u.oneCell' = true) (hbytes : (n + news.length) * bytes ≤ 140737488355328) (hpos : 0 < bytes) (hbase : base ≤ w.heap.size)
    (h : ∀ A' c' w', w'.ownsRow base e 1 (.slice A' (n + m) c') (n + m) (xs ++ news) → w.grownBy w' v.ownBlock → (Value.ownBlock (.slice A' (n + m) c') = v.ownBlock ∨ Value.ownBlock (.slice A' (n + m) c') = some w.heap.size) → K (a.put o.dst (.slice A' (n + m) c')) w') :
    if Region.wanted o (yielded ops a.tmps) = true then Oper.wp P o a w K Q else E := by
  have hw : Region.wanted o (yielded ops a.tmps) = true := by simp [Region.wanted, hgd]
  rw [if_pos hw]
  have hml := (Sl.cap_le hr).1
  subst hml
  obtain ⟨i, h2, h3, h4, h5⟩ := T.hi
  have hlen : n + news.length ≤ maxLen := by
    have := Nat.le_mul_of_pos_right (n + news.length) hpos
    unfold maxLen; omega
  have fin : ∀ v' w', (Builtin.append_ #[t, t] o.type #[v, .slice A news.length c]).run P w = .ok v' w' → w'.ownsRow base e 1 v' (n + news.length) (xs ++ news) → w.grownBy w' v.ownBlock → (v'.ownBlock = v.ownBlock ∨ v'.ownBlock = some w.heap.size) → Oper.wp P o a w K Q := fun v' w' hrun a1 a2 a3 => by
    obtain ⟨A', c', rfl⟩ := own_form a1
    unfold Oper.wp execOp
    simp only [ho, resolve, invoke, builtin, Sem.run_bind, Sem.run_pure, Result.andThen_ok, List.map_toArray, List.map_cons, List.map_nil, hs, hx, hrun]
    exact h A' c' w' a1 a2 a3
  obtain ⟨A', cap', hv, hl1, hl2, hcell⟩ := hr
  injection hv with hA hm hc
  subst hA; subst hc
  cases A with
  | none =>
    have h0 : news.length = 0 := by
      rcases Nat.eq_zero_or_pos news.length with h0 | h0
      · exact h0
      · obtain ⟨ad, h, _⟩ := hcell h0; cases h
    have hn : news = [] := List.eq_nil_of_length_eq_zero h0
    subst hn
    exact fin v w (run_append_nil_src (P := P) w base t o.type e i 1 T.ht h2 v n xs hown c) (by simpa using hown) (World.grownBy.refl w _) (.inl rfl)
  | some ad =>
    obtain ⟨v', w', hrun, a1, a2, _, a4⟩ := run_append_own_at (P := P) w base t o.type e i z 1 bytes T.ht h2 h3 h4 h5 T.hz (by omega) v n xs hown ad news.length c news (by simp)
      (fun j y hy => by
        have hj : 0 < news.length := by have := (List.getElem?_eq_some_iff.1 hy).1; omega
        obtain ⟨ad', h, _, _, hcc⟩ := hcell hj
        injection h with h
        subst h
        exact hcc j y hy)
      h1 hlen hbytes hbase
    exact fin v' w' hrun a1 a2 a4
set_option maxRecDepth 100000 in
set_option maxHeartbeats 16000000 in
theorem merge_walk (P P2 : Nat → Prop) (a b : Ox) (va vb : V5) (w : World) (ha : ObjV P w va a) (hb : ObjV P2 w vb b) (hT : Tab10 w) (hE : ErrT w) :
    Calls Tryz.prog 5 #[va.val, vb.val] w fun e w' => e = .returned (.bool true) ∧ Below w.heap.size w w' := by
  have HPs : Hid (∀ W, Below w.heap.size w W → Calls Tryz.prog 9 #[] W fun e w' => e = .returned (.bool true) ∧ Below W.heap.size W w') := fun W h => parses_any W (hT.later h) (hE.later h)
  have HMe : Hid (∀ W, Below w.heap.size w W → Calls Tryz.prog 14 #[va.val, vb.val] W (ObPost (mergeF a b) W)) := fun W h => merge_any P P2 a b va vb W (ha.later h) (hb.later h) (hT.later h)
  have HGet : Hid (∀ (x : Ox) (vx : V5) (g : Nat) (k : Tk.Src) (W : World), k.length ≤ 140737488355328 → Below w.heap.size w W → Blk W g 9 #[.string ⟨k.toArray⟩] → ObjV (fun _ => True) W vx x → Calls Tryz.prog 15 #[vx.val, .slice (some ⟨g, 0, none⟩) 1 1] W (ObPost (getF x [k]) W)) := fun x vx g k W hk hW hg hx => get_any _ _ x vx _ [k] W hx (sl_one hg) (fun s hs => by simp at hs; subst hs; exact hk) (hT.later hW) (hE.later hW)
  have HCa : Hid (∀ W, Below w.heap.size w W → Calls Tryz.prog 11 #[va.val] W fun e w' => e = .returned (.int .i64 (checkO a)) ∧ Below W.heap.size W w') := fun W hW => check_obj P a va W (ha.later hW) (Tab10.later hT hW)
  have HCb : Hid (∀ W, Below w.heap.size w W → Calls Tryz.prog 11 #[vb.val] W fun e w' => e = .returned (.int .i64 (checkO b)) ∧ Below W.heap.size W w') := fun W hW => check_obj P2 b vb W (hb.later hW) (Tab10.later hT hW)
  have HVo : Hid (∀ W, Below w.heap.size w W → ObjV (fun _ => True) W va a ∧ ObjV (fun _ => True) W vb b) := fun W hW => ⟨(ha.later hW).mono fun _ _ _ => trivial, (hb.later hW).mono fun _ _ _ => trivial⟩
  have HFe : Hid (∀ e, mergeF a b = .error e → e ≠ 0 ∧ (checkO a = 0 → checkO b = 0 → a.kind = 7 → b.kind = 7 → e = 2)) := fun e h => merge_err h
  have HF : Hid (∀ m, mergeF a b = .ok m → Ad m ∧ Ad a ∧ Ad b ∧
    (∀ k ∈ m.keys, ∃ x, getF m [k] = .ok x ∧ (getF b [k] = .ok x ∨ (getF b [k] = .error 8 ∧ getF a [k] = .ok x))) ∧ ∀ k ∈ a.keys ++ b.keys, ∃ x, getF m [k] = .ok x) := fun m h => merge_facts5 h
  have HKa : Hid (Sl w (fun k => k < w.heap.size) va.ks (strs a.keys)) := by
    obtain ⟨kv, dv, us, rfl, s1, -, -, -⟩ := ha.open_
    exact s1.mono fun k hk _ => hk
  have HKb : Hid (Sl w (fun k => k < w.heap.size) vb.ks (strs b.keys)) := by
    obtain ⟨kv, dv, us, rfl, s1, -, -, -⟩ := hb.open_
    exact s1.mono fun k hk _ => hk
  obtain ⟨kv0, dv0, us0, rfl, s1, s2, -, -⟩ := ha.open_
  obtain ⟨A0, c0, rfl⟩ := s1.form
  obtain ⟨E0, d0, rfl⟩ := s2.form
  clear s1 s2
  obtain ⟨kv1, dv1, us1, rfl, s1, s2, -, -⟩ := hb.open_
  obtain ⟨A1, c1, rfl⟩ := s1.form
  obtain ⟨E1, d1, rfl⟩ := s2.form
  clear s1 s2
  have hpa : (strs a.keys).length = a.keys.length := by simp [strs]
  have hpb : (strs b.keys).length = b.keys.length := by simp [strs]
  unfold V5.val at HMe HCa HCb ⊢
  dsimp only at HMe HCa HCb HKa HKb ⊢
  rw [hpa] at HMe HCa HVo HKa ⊢
  rw [hpb] at HMe HCb HVo HKb ⊢
  generalize hn0 : a.keys.length = n0 at *
  have HN0 := Lib.hid hn0
  generalize hn1 : b.keys.length = n1 at *
  have HN1 := Lib.hid hn1
  generalize a.kids.length = m0 at *
  generalize a.int = i0 at *
  generalize (⟨a.text.toArray⟩ : ByteArray) = T0 at *
  generalize hk0 : a.kind = k0 at *
  generalize b.kids.length = m1 at *
  generalize b.int = i1 at *
  generalize (⟨b.text.toArray⟩ : ByteArray) = T1 at *
  generalize hk1 : b.kind = k1 at *
  generalize hca : checkO a = Ca at *
  generalize hcb : checkO b = Cb at *
  clear ha hb hT hE hpa hpb hn0 hn1 hk0 hk1 hca hcb
  have HSt := Lib.hid (St2.new w ⟨.int .i64 k0, .int .i64 i0, .string T0, .slice A0 n0 c0, .slice E0 m0 d0⟩ ⟨.int .i64 k1, .int .i64 i1, .string T1, .slice A1 n1 c1, .slice E1 m1 d1⟩)
  go_enter Tryz.func5, Tryz.ntmps5
  go_wp2_with fail
  refine (HPs.out _ HSt.out.be).mono ?_
  rintro e w1 ⟨rfl, hb⟩
  have HSt1 := Lib.hid (HSt.out.later hb)
  clear hb HSt
  obtain ⟨x0, x1, x2, x3, x4⟩ := b5_cells (v := ⟨.int .i64 k0, .int .i64 i0, .string T0, .slice A0 n0 c0, .slice E0 m0 d0⟩) HSt1.out.h0
  obtain ⟨y0, y1, y2, y3, y4⟩ := b5_cells (v := ⟨.int .i64 k1, .int .i64 i1, .string T1, .slice A1 n1 c1, .slice E1 m1 d1⟩) HSt1.out.h1
  dsimp only at x0 x1 x2 x3 x4 y0 y1 y2 y3 y4
  go_wp2_with fail
  refine (HMe.out _ HSt1.out.be).mono ?_
  clear x0 x1 x2 x3 x4 y0 y1 y2 y3 y4 HMe
  rintro e w2 hp
  obtain ⟨hb2, u2, rfl, hov⟩ := ob_res hp
  have HOv := Lib.hid hov
  have hst2 := HSt1.out.later hb2
  obtain ⟨kv2, dv2, us2, rfl, s1, s2, -, -⟩ := hov.open_
  obtain ⟨A2, c2, rfl⟩ := s1.form
  obtain ⟨E2, d2, rfl⟩ := s2.form
  clear s1 s2
  unfold V5.val
  dsimp only
  generalize hsr : mergeF a b = R at *
  rw [show (strs (resR R).keys).length = (resR R).keys.length by simp [strs]] at hov HOv ⊢
  generalize hn2 : (resR R).keys.length = n2 at *
  have HN2 := Lib.hid hn2
  clear hn2
  generalize (resR R).kids.length = m2 at *
  generalize (resR R).kind = k2 at *
  generalize (resR R).int = i2 at *
  generalize (⟨(resR R).text.toArray⟩ : ByteArray) = T2 at *
  have HSt3 : Hid (St2 w (w2.alloc (.cells #[.int .i64 k2, .int .i64 i2, .string T2, .slice A2 n2 c2, .slice E2 m2 d2] 25)) ⟨.int .i64 k0, .int .i64 i0, .string T0, .slice A0 n0 c0, .slice E0 m0 d0⟩ ⟨.int .i64 k1, .int .i64 i1, .string T1, .slice A1 n1 c1, .slice E1 m1 d1⟩) := hst2.later ((Below.refl _ _).alloc (Nat.le_refl _) _)
  have HB3 : Hid (B5 (w2.alloc (.cells #[.int .i64 k2, .int .i64 i2, .string T2, .slice A2 n2 c2, .slice E2 m2 d2] 25)) w2.heap.size ⟨.int .i64 k2, .int .i64 i2, .string T2, .slice A2 n2 c2, .slice E2 m2 d2⟩) := Blk.new w2 _ _
  have HV3 : Hid (ObjV (fun _ => True) (w2.alloc (.cells #[.int .i64 k2, .int .i64 i2, .string T2, .slice A2 n2 c2, .slice E2 m2 d2] 25)) ⟨.int .i64 k2, .int .i64 i2, .string T2, .slice A2 n2 c2, .slice E2 m2 d2⟩ (resR R)) := HOv.out.alloc _
  have z0 := hst2.h0.lt
  have z1 := hst2.h1.lt
  obtain ⟨x0, x1, x2, x3, x4⟩ := b5_cells (v := ⟨.int .i64 k0, .int .i64 i0, .string T0, .slice A0 n0 c0, .slice E0 m0 d0⟩) hst2.h0
  obtain ⟨y0, y1, y2, y3, y4⟩ := b5_cells (v := ⟨.int .i64 k1, .int .i64 i1, .string T1, .slice A1 n1 c1, .slice E1 m1 d1⟩) hst2.h1
  dsimp only at x0 x1 x2 x3 x4 y0 y1 y2 y3 y4
  clear hp hb2 hov HOv hst2 HSt1 HPs
  cases R with
  | error c =>
    dsimp only [codeR]
    obtain ⟨hne, h2⟩ := HFe.out c rfl
    have hcb3 : (c != 0) = true := by simpa using hne
    have H2 := Lib.hid h2
    clear hsr HFe HF h2 hne HB3 HV3
    go_wp2_with fail
    refine (HCa.out _ HSt3.out.be).mono ?_
    rintro e w4 ⟨rfl, hb4⟩
    have HSt4 := Lib.hid (HSt3.out.later hb4)
    clear x0 x1 x2 x3 x4 y0 y1 y2 y3 y4 z0 z1 hb4
    by_cases h1 : Ca = 0
    case neg =>
      have hb1 : (Ca != 0) = true := by simpa using h1
      go_wp2_with fail
      go_ret
      exact ⟨rfl, HSt4.out.be⟩
    subst h1
    obtain ⟨x0, x1, x2, x3, x4⟩ := b5_cells (v := ⟨.int .i64 k0, .int .i64 i0, .string T0, .slice A0 n0 c0, .slice E0 m0 d0⟩) HSt4.out.h0
    obtain ⟨y0, y1, y2, y3, y4⟩ := b5_cells (v := ⟨.int .i64 k1, .int .i64 i1, .string T1, .slice A1 n1 c1, .slice E1 m1 d1⟩) HSt4.out.h1
    dsimp only at x0 x1 x2 x3 x4 y0 y1 y2 y3 y4
    have hb1 : ((0 : Int) != 0) = false := rfl
    go_wp2_with fail
    refine (HCb.out _ HSt4.out.be).mono ?_
    rintro e w5 ⟨rfl, hb5⟩
    have HSt5 := Lib.hid (HSt4.out.later hb5)
    clear x0 x1 x2 x3 x4 y0 y1 y2 y3 y4 hb5
    by_cases h1 : Cb = 0
    case neg =>
      have hb1 : (Cb != 0) = true := by simpa using h1
      go_wp2_with fail
      go_ret
      exact ⟨rfl, HSt5.out.be⟩
    subst h1
    obtain ⟨x0, x1, x2, x3, x4⟩ := b5_cells (v := ⟨.int .i64 k0, .int .i64 i0, .string T0, .slice A0 n0 c0, .slice E0 m0 d0⟩) HSt5.out.h0
    obtain ⟨y0, y1, y2, y3, y4⟩ := b5_cells (v := ⟨.int .i64 k1, .int .i64 i1, .string T1, .slice A1 n1 c1, .slice E1 m1 d1⟩) HSt5.out.h1
    dsimp only at x0 x1 x2 x3 x4 y0 y1 y2 y3 y4
    by_cases h1 : k0 = 7
    case neg =>
      have hb2 : (k0 != 7) = true := by simpa using h1
      go_wp2_with fail
      go_ret
      exact ⟨rfl, HSt5.out.be⟩
    by_cases h2 : k1 = 7
    case neg =>
      have hb2 : (k0 != 7) = false := by simpa using h1
      have hb3 : (k1 != 7) = true := by simpa using h2
      go_wp2_with fail
      go_ret
      exact ⟨rfl, HSt5.out.be⟩
    have hb2 : (k0 != 7) = false := by simpa using h1
    have hb3 : (k1 != 7) = false := by simpa using h2
    have hc2 := H2.out (by first | rfl | trivial) (by first | rfl | trivial) h1 h2
    have hb4 : (c == 2) = true := by simpa using hc2
    clear hc2 h1 h2
    go_wp2_with fail
    go_ret
    exact ⟨rfl, HSt5.out.be⟩
  | ok m =>
    obtain ⟨hmd, had, hbd, hent, hall⟩ := HF.out m rfl
    have hcb3 : ((0 : Int) != 0) = false := rfl
    dsimp only [codeR, resR] at HV3 HN2 ⊢
    have HEnt := Lib.hid hent
    have HAll := Lib.hid hall
    have HLm := Lib.hid (key_len hmd)
    have HLa := Lib.hid (key_len had)
    have HLb := Lib.hid (key_len hbd)
    have hn2b : n2 ≤ 256 := by have := hmd.small.1; have := HN2.out; omega
    have hn0b : n0 ≤ 256 := by have := had.small.1; have := HN0.out; omega
    have hn1b : n1 ≤ 256 := by have := hbd.small.1; have := HN1.out; omega
    clear hsr HFe HF hmd had hbd hent hall HCa HCb x0 x1 x2 x3 x4 y0 y1 y2 y3 y4 z0 z1
    go_wp2_with fail
    have hx2 : w2.heap.size < (w2.alloc (.cells #[.int .i64 k2, .int .i64 i2, .string T2, .slice A2 n2 c2, .slice E2 m2 d2] 25)).heap.size := HB3.out.lt
    generalize w2.alloc (.cells #[.int .i64 k2, .int .i64 i2, .string T2, .slice A2 n2 c2, .slice E2 m2 d2] 25) = x3 at *
    generalize w2.heap.size = bm at *
    go_loopw [8, 9, 10, 11, 12, 52] (fun _ _ _ _ _ v52 wr => True ∧ ∃ j : Nat, j ≤ n2 ∧ v52 = .int .i64 j ∧ St2 w wr ⟨.int .i64 k0, .int .i64 i0, .string T0, .slice A0 n0 c0, .slice E0 m0 d0⟩ ⟨.int .i64 k1, .int .i64 i1, .string T1, .slice A1 n1 c1, .slice E1 m1 d1⟩ ∧ B5 wr bm ⟨.int .i64 k2, .int .i64 i2, .string T2, .slice A2 n2 c2, .slice E2 m2 d2⟩ ∧ ObjV (fun _ => True) wr ⟨.int .i64 k2, .int .i64 i2, .string T2, .slice A2 n2 c2, .slice E2 m2 d2⟩ m) (fun _ _ _ _ _ v52 _ => n2 - (intOf v52).toNat)
    case atStart => exact ⟨trivial, 0, Nat.zero_le _, rfl, HSt3.out, HB3.out, HV3.out⟩
    case round =>
      obtain ⟨-, j, hj, rfl, hst, hb3, hv3⟩ := hrel
      have HSr := Lib.hid hst
      have HBr := Lib.hid hb3
      have HVr := Lib.hid hv3
      clear hst hb3 hv3 HSt3 HB3 HV3
      by_cases hlt : j < n2
      · have hla : (j : Int) < (n2 : Int) := by omega
        have hjk : j < m.keys.length := by rw [HN2.out]; exact hlt
        obtain ⟨kvm, dvm, usm, em, sm1, -, -, -⟩ := HVr.out.open_
        injection em with em1 em2 em3 em4 em5
        clear em1 em2 em3 em5
        rw [← em4] at sm1
        obtain ⟨pb, po, ea, hpb, hpcell⟩ := sm1.plainA (by simp [strs]; omega)
        subst ea
        have hcs2 := hpcell j (.string ⟨(m.keys[j]'hjk).toArray⟩) (by simp [strs, hjk])
        have hmem : m.keys[j]'hjk ∈ m.keys := List.getElem_mem hjk
        have hlen := HLm.out _ hmem
        have HOj := Lib.hid (HEnt.out _ hmem)
        generalize m.keys[j]'hjk = kk at *
        clear hpcell hmem sm1 em4
        generalize hks : (⟨kk.toArray⟩ : ByteArray) = SS at *
        have HKk := Lib.hid hks
        clear hks
        obtain ⟨x, hgm, hor⟩ := HOj.out
        have HOr := Lib.hid hor
        have z0 := HBr.out.lt
        obtain ⟨x0, x1, x2, x3, x4⟩ := b5_cells (v := ⟨.int .i64 k2, .int .i64 i2, .string T2, .slice (some ⟨pb, po, none⟩) n2 c2, .slice E2 m2 d2⟩) HBr.out
        dsimp only at x0 x1 x2 x3 x4
        have hal := (Below.refl wr.heap.size wr).alloc (Nat.le_refl _) (.cells #[.string SS] 9)
        have HSra := Lib.hid (HSr.out.later hal)
        have HBra := Lib.hid (HBr.out.below hal HBr.out.lt)
        have HVra := Lib.hid (HVr.out.later hal)
        have hget := HGet.out m ⟨.int .i64 k2, .int .i64 i2, .string T2, .slice (some ⟨pb, po, none⟩) n2 c2, .slice E2 m2 d2⟩ wr.heap.size kk _ (by omega) HSra.out.be (by rw [HKk.out]; exact Blk.new wr _ _) HVra.out
        rw [hgm] at hget
        have HGet1 := Lib.hid hget
        clear hget hgm hor hal HSr HBr HVr HOj
        go_wp2_with fail
        refine HGet1.out.mono ?_
        clear HGet1 x0 x1 x2 x3 x4 z0 hcs2 hpb
        generalize wr.alloc (.cells #[.string SS] 9) = ra at *
        rintro e w4 hp
        obtain ⟨hb4, u4, rfl, hov⟩ := ob_res hp
        have HOv := Lib.hid hov
        have hst4 := HSra.out.later hb4
        have hHBra4 := HBra.out.below hb4 HBra.out.lt
        have hHVra4 := HVra.out.later hb4
        dsimp only [codeR, resR] at hov HOv ⊢
        obtain ⟨kv4, dv4, us4, rfl, s1, s2, -, -⟩ := hov.open_
        obtain ⟨A4, c4, rfl⟩ := s1.form
        obtain ⟨E4, d4, rfl⟩ := s2.form
        clear s1 s2
        unfold V5.val
        dsimp only
        generalize (strs x.keys).length = n4 at *
        generalize x.kids.length = m4 at *
        generalize x.kind = k4 at *
        generalize x.int = i4 at *
        generalize (⟨x.text.toArray⟩ : ByteArray) = T4 at *
        have hal := ((Below.refl w4.heap.size w4).alloc (Nat.le_refl _) (.cells #[.int .i64 k4, .int .i64 i4, .string T4, .slice A4 n4 c4, .slice E4 m4 d4] 25)).alloc (by simp) (.cells #[.string SS] 9)
        have HS5 := Lib.hid (hst4.later hal)
        have HB5 := Lib.hid (hHBra4.below hal hHBra4.lt)
        have HV5 := Lib.hid (hHVra4.later hal)
        have HN5 : Hid (B5 ((w4.alloc (.cells #[.int .i64 k4, .int .i64 i4, .string T4, .slice A4 n4 c4, .slice E4 m4 d4] 25)).alloc (.cells #[.string SS] 9)) w4.heap.size ⟨.int .i64 k4, .int .i64 i4, .string T4, .slice A4 n4 c4, .slice E4 m4 d4⟩) := (Blk.new w4 _ _).alloc _
        have HX5 := Lib.hid (HOv.out.later hal)
        have hblk : Blk ((w4.alloc (.cells #[.int .i64 k4, .int .i64 i4, .string T4, .slice A4 n4 c4, .slice E4 m4 d4] 25)).alloc (.cells #[.string SS] 9)) (w4.heap.size + 1) 9 #[.string SS] := by
          have := Blk.new (w4.alloc (.cells #[.int .i64 k4, .int .i64 i4, .string T4, .slice A4 n4 c4, .slice E4 m4 d4] 25)) 9 #[.string SS]
          simpa using this
        have HGet2 := Lib.hid (HGet.out b ⟨.int .i64 k1, .int .i64 i1, .string T1, .slice A1 n1 c1, .slice E1 m1 d1⟩ (w4.heap.size + 1) kk _ (by omega) HS5.out.be (by rw [HKk.out]; exact hblk) (HVo.out _ HS5.out.be).2)
        have z1 := hst4.h1.lt
        obtain ⟨x0, x1, x2, x3, x4⟩ := b5_cells (v := ⟨.int .i64 k1, .int .i64 i1, .string T1, .slice A1 n1 c1, .slice E1 m1 d1⟩) hst4.h1
        dsimp only at x0 x1 x2 x3 x4
        clear hp hb4 hov HOv hst4 hHBra4 hHVra4 hal hblk HSra HBra HVra
        go_wp2_with fail
        refine HGet2.out.mono ?_
        clear HGet2 x0 x1 x2 x3 x4 z1
        generalize hx5 : ((w4.alloc (.cells #[.int .i64 k4, .int .i64 i4, .string T4, .slice A4 n4 c4, .slice E4 m4 d4] 25)).alloc (.cells #[.string SS] 9)) = x5 at *
        have hz5 : w4.heap.size < x5.heap.size := HN5.out.lt
        clear hx5
        rcases HOr.out with hgb | ⟨hgb, hga⟩
        · rw [hgb]
          clear hgb
          rintro e w6 hp
          obtain ⟨hb6, u6, rfl, hov⟩ := ob_res hp
          have HOv := Lib.hid hov
          have hst6 := HS5.out.later hb6
          have hHB56 := HB5.out.below hb6 HB5.out.lt
          have hHV56 := HV5.out.later hb6
          have hHN56 := HN5.out.below hb6 HN5.out.lt
          have hHX56 := HX5.out.later hb6
          have hz6 := hb6.size
          dsimp only [codeR, resR] at hov HOv ⊢
          obtain ⟨kv6, dv6, us6, rfl, s1, s2, -, -⟩ := hov.open_
          obtain ⟨A6, c6, rfl⟩ := s1.form
          obtain ⟨E6, d6, rfl⟩ := s2.form
          clear s1 s2
          unfold V5.val
          dsimp only
          generalize (strs x.keys).length = n6 at *
          generalize x.kids.length = m6 at *
          generalize x.kind = k6 at *
          generalize x.int = i6 at *
          generalize (⟨x.text.toArray⟩ : ByteArray) = T6 at *
          have hal := (Below.refl w6.heap.size w6).alloc (Nat.le_refl _) (.cells #[.int .i64 k6, .int .i64 i6, .string T6, .slice A6 n6 c6, .slice E6 m6 d6] 25)
          have HS7 := Lib.hid (hst6.later hal)
          have HB7 := Lib.hid (hHB56.below hal hHB56.lt)
          have HV7 := Lib.hid (hHV56.later hal)
          have HSm : Hid (Calls Tryz.prog 13 #[.agg #[.int .i64 k4, .int .i64 i4, .string T4, .slice A4 n4 c4, .slice E4 m4 d4], .agg #[.int .i64 k6, .int .i64 i6, .string T6, .slice A6 n6 c6, .slice E6 m6 d6]] (w6.alloc (.cells #[.int .i64 k6, .int .i64 i6, .string T6, .slice A6 n6 c6, .slice E6 m6 d6] 25)) fun e w' => e = .returned (.bool true) ∧ Below (w6.alloc (.cells #[.int .i64 k6, .int .i64 i6, .string T6, .slice A6 n6 c6, .slice E6 m6 d6] 25)).heap.size (w6.alloc (.cells #[.int .i64 k6, .int .i64 i6, .string T6, .slice A6 n6 c6, .slice E6 m6 d6] 25)) w') := same_same (va := ⟨.int .i64 k4, .int .i64 i4, .string T4, .slice A4 n4 c4, .slice E4 m4 d4⟩) (vb := ⟨.int .i64 k6, .int .i64 i6, .string T6, .slice A6 n6 c6, .slice E6 m6 d6⟩) (hHX56.alloc _) (HOv.out.alloc _)
          have z7 := hHN56.lt
          obtain ⟨x0, x1, x2, x3, x4⟩ := b5_cells (v := ⟨.int .i64 k4, .int .i64 i4, .string T4, .slice A4 n4 c4, .slice E4 m4 d4⟩) hHN56
          dsimp only at x0 x1 x2 x3 x4
          clear hp hov HOv hb6 hst6 hHB56 hHV56 hHN56 hHX56 hal HS5 HB5 HV5 HN5 HX5
          go_wp2_with fail
          refine HSm.out.mono ?_
          rintro e w7 ⟨rfl, hb7⟩
          have HS8 := Lib.hid (HS7.out.later hb7)
          have HB8 := Lib.hid (HB7.out.below hb7 HB7.out.lt)
          have HV8 := Lib.hid (HV7.out.later hb7)
          clear hb7 HSm HS7 HB7 HV7 x0 x1 x2 x3 x4 z7
          go_wp2_with fail
          refine ⟨⟨trivial, j + 1, by omega, by go_num, HS8.out, HB8.out, HV8.out⟩, by simp [intOf]; omega⟩
        · rw [hgb]
          clear hgb
          rintro e w6 hp
          obtain ⟨hb6, u6, rfl, hov⟩ := ob_res hp
          have HOv := Lib.hid hov
          have hst6 := HS5.out.later hb6
          have hHB56 := HB5.out.below hb6 HB5.out.lt
          have hHV56 := HV5.out.later hb6
          have hHN56 := HN5.out.below hb6 HN5.out.lt
          have hHX56 := HX5.out.later hb6
          have hz6 := hb6.size
          dsimp only [codeR, resR] at hov HOv ⊢
          obtain ⟨kv6, dv6, us6, rfl, s1, s2, -, -⟩ := hov.open_
          obtain ⟨A6, c6, rfl⟩ := s1.form
          obtain ⟨E6, d6, rfl⟩ := s2.form
          clear s1 s2
          unfold V5.val
          dsimp only [Ox.zero, Ox.kind, Ox.int, Ox.text, Ox.keys, Ox.kids, strs, List.map_nil, List.length_nil]
          have hal := ((Below.refl w6.heap.size w6).alloc (Nat.le_refl _) (.cells #[.int .i64 0, .int .i64 0, .string ⟨#[]⟩, .slice A6 0 c6, .slice E6 0 d6] 25)).alloc (by simp) (.cells #[.string SS] 9)
          have HS7 := Lib.hid (hst6.later hal)
          have HB7 := Lib.hid (hHB56.below hal hHB56.lt)
          have HV7 := Lib.hid ((hHV56.mono (Q := fun k => k < w6.heap.size) fun k hk _ => hk).later hal)
          have HN7 := Lib.hid (hHN56.below hal hHN56.lt)
          have HX7 := Lib.hid ((hHX56.mono (Q := fun k => k < w6.heap.size) fun k hk _ => hk).later hal)
          have HM7 : Hid (B5 ((w6.alloc (.cells #[.int .i64 0, .int .i64 0, .string ⟨#[]⟩, .slice A6 0 c6, .slice E6 0 d6] 25)).alloc (.cells #[.string SS] 9)) w6.heap.size ⟨.int .i64 0, .int .i64 0, .string ⟨#[]⟩, .slice A6 0 c6, .slice E6 0 d6⟩) := (Blk.new w6 _ _).alloc _
          have hblk : Blk ((w6.alloc (.cells #[.int .i64 0, .int .i64 0, .string ⟨#[]⟩, .slice A6 0 c6, .slice E6 0 d6] 25)).alloc (.cells #[.string SS] 9)) (w6.heap.size + 1) 9 #[.string SS] := by
            have := Blk.new (w6.alloc (.cells #[.int .i64 0, .int .i64 0, .string ⟨#[]⟩, .slice A6 0 c6, .slice E6 0 d6] 25)) 9 #[.string SS]
            simpa using this
          have hget := HGet.out a ⟨.int .i64 k0, .int .i64 i0, .string T0, .slice A0 n0 c0, .slice E0 m0 d0⟩ (w6.heap.size + 1) kk _ (by omega) HS7.out.be (by rw [HKk.out]; exact hblk) (HVo.out _ HS7.out.be).1
          rw [hga] at hget
          have HGet3 := Lib.hid hget
          have z1 := hst6.h0.lt
          obtain ⟨x0, x1, x2, x3, x4⟩ := b5_cells (v := ⟨.int .i64 k0, .int .i64 i0, .string T0, .slice A0 n0 c0, .slice E0 m0 d0⟩) hst6.h0
          dsimp only at x0 x1 x2 x3 x4
          have h88 : ((8 : Int) == 8) = true := rfl
          have hw61 := hst6.h1.lt
          have hbm6 := hHB56.lt
          clear hget hga hp hb6 hov HOv hst6 hHB56 hHV56 hHN56 hHX56 hal hblk HS5 HB5 HV5 HN5 HX5
          go_wp2_with fail
          refine HGet3.out.mono ?_
          clear HGet3 x0 x1 x2 x3 x4 z1
          generalize hx7 : ((w6.alloc (.cells #[.int .i64 0, .int .i64 0, .string ⟨#[]⟩, .slice A6 0 c6, .slice E6 0 d6] 25)).alloc (.cells #[.string SS] 9)) = x7 at *
          have hz7 : w6.heap.size < x7.heap.size := HM7.out.lt
          clear hx7
          rintro e w8 ⟨hb8, v8, rfl, hov8⟩
          have hst8 := HS7.out.later hb8
          have hB8 := HB7.out.below hb8 HB7.out.lt
          have hV8 := HV7.out.later hb8
          have hN8 := HN7.out.below hb8 HN7.out.lt
          have hX8 := HX7.out.later hb8
          have hM8 := HM7.out.below hb8 HM7.out.lt
          have HO8 := Lib.hid hov8
          have hz8 := hb8.size
          have hz46 : w4.heap.size < w6.heap.size := by omega
          obtain ⟨kv8, dv8, us8, rfl, s1, s2, -, -⟩ := hov8.objV.open_
          obtain ⟨A8, c8, rfl⟩ := s1.form
          obtain ⟨E8, d8, rfl⟩ := s2.form
          clear s1 s2 hov8
          unfold V5.val
          dsimp only at HO8 ⊢
          generalize (strs x.keys).length = n8 at *
          generalize x.kids.length = m8 at *
          generalize x.kind = k8 at *
          generalize x.int = i8 at *
          generalize (⟨x.text.toArray⟩ : ByteArray) = T8 at *
          have hf := b5_frs' (R := w8.heap.size) (T := fun k => k = w6.heap.size) (FrS.refl _ _ w8) rfl ⟨.int .i64 k8, .int .i64 i8, .string T8, .slice A8 n8 c8, .slice E8 m8 d8⟩
          have hput := b5_put (v := ⟨.int .i64 0, .int .i64 0, .string ⟨#[]⟩, .slice A6 0 c6, .slice E6 0 d6⟩) hM8 ⟨.int .i64 k8, .int .i64 i8, .string T8, .slice A8 n8 c8, .slice E8 m8 d8⟩
          have HS9 := Lib.hid (⟨hst8.be.trans (hf.below hst8.be.size (fun k hk => by omega)), hf.blk hst8.h0 hst8.h0.lt (by omega), hf.blk hst8.h1 hst8.h1.lt (by omega)⟩ : St2 w _ ⟨.int .i64 k0, .int .i64 i0, .string T0, .slice A0 n0 c0, .slice E0 m0 d0⟩ ⟨.int .i64 k1, .int .i64 i1, .string T1, .slice A1 n1 c1, .slice E1 m1 d1⟩)
          have HB9 := Lib.hid (hf.blk hB8 hB8.lt (by omega))
          have HV9 := Lib.hid (hV8.keep hf.size (fun k hk hl => hf.block k hl (by omega)))
          have HN9 := Lib.hid (hf.blk hN8 hN8.lt (by omega))
          have hx9 := hX8.keep hf.size (fun k hk hl => hf.block k hl (by omega))
          have hy9 := HO8.out.objV.keep hf.size (fun k hk hl => hf.block k hl (by omega))
          have HSm := Lib.hid (same_same (va := ⟨.int .i64 k4, .int .i64 i4, .string T4, .slice A4 n4 c4, .slice E4 m4 d4⟩) (vb := ⟨.int .i64 k8, .int .i64 i8, .string T8, .slice A8 n8 c8, .slice E8 m8 d8⟩) hx9 hy9)
          have HM9 := Lib.hid hput
          have zf := fun k => Blk.frozen hM8 k
          have zl := hM8.lt
          obtain ⟨x0, x1, x2, x3, x4⟩ := b5_cells (v := ⟨.int .i64 0, .int .i64 0, .string ⟨#[]⟩, .slice A6 0 c6, .slice E6 0 d6⟩) hM8
          dsimp only at HS9 HB9 HV9 HN9 HSm HM9 x0 x1 x2 x3 x4
          clear hb8 hst8 hB8 hV8 hN8 hX8 hM8 HO8 hf hput hx9 hy9 HS7 HB7 HV7 HN7 HX7 HM7
          go_upto_region 13 with (fail)
          clear x0 x1 x2 x3 x4 zf zl
          generalize hw9 : (((((w8.setCell ⟨w6.heap.size, 0, none⟩ (.int .i64 k8)).setCell ⟨w6.heap.size, 1, none⟩ (.int .i64 i8)).setCell ⟨w6.heap.size, 2, none⟩ (.string T8)).setCell ⟨w6.heap.size, 3, none⟩ (.slice A8 n8 c8)).setCell ⟨w6.heap.size, 4, none⟩ (.slice E8 m8 d8)) = w9 at *
          clear hw9
          obtain ⟨x0, x1, x2, x3, x4⟩ := b5_cells (v := ⟨.int .i64 k4, .int .i64 i4, .string T4, .slice A4 n4 c4, .slice E4 m4 d4⟩) HN9.out
          obtain ⟨y0, y1, y2, y3, y4⟩ := b5_cells (v := ⟨.int .i64 k8, .int .i64 i8, .string T8, .slice A8 n8 c8, .slice E8 m8 d8⟩) HM9.out
          dsimp only at x0 x1 x2 x3 x4 y0 y1 y2 y3 y4
          unfold V5.val at HSm
          dsimp only at HSm
          clear HN9 HM9
          go_wp2_with fail
          refine HSm.out.mono ?_
          rintro e w10 ⟨rfl, hb10⟩
          have HS10 := Lib.hid (HS9.out.later hb10)
          have HB10 := Lib.hid (Blk.below HB9.out hb10 (Blk.lt HB9.out))
          have HV10 := Lib.hid ((HV9.out.later hb10).mono (Q := fun _ => True) fun _ _ _ => trivial)
          clear hb10 HSm HS9 HB9 HV9 x0 x1 x2 x3 x4 y0 y1 y2 y3 y4
          go_wp2_with fail
          refine ⟨⟨trivial, j + 1, by omega, by go_num, HS10.out, HB10.out, HV10.out⟩, by simp [intOf]; omega⟩
      · obtain rfl : n2 = j := by omega
        have hx3 := HBr.out.lt
        obtain ⟨x0, x1, x2, x3, x4⟩ := b5_cells (v := ⟨.int .i64 k0, .int .i64 i0, .string T0, .slice A0 n0 c0, .slice E0 m0 d0⟩) HSr.out.h0
        obtain ⟨y0, y1, y2, y3, y4⟩ := b5_cells (v := ⟨.int .i64 k1, .int .i64 i1, .string T1, .slice A1 n1 c1, .slice E1 m1 d1⟩) HSr.out.h1
        dsimp only at x0 x1 x2 x3 x4 y0 y1 y2 y3 y4
        have hkA := HKa.out.later HSr.out.be
        have HClA : Hid (Calls Tryz.prog 16 #[.slice A0 n0 c0] wr.drew fun e w' => ∃ v', e = .returned v' ∧ w'.ownsRow wr.heap.size 9 1 v' a.keys.length (strs a.keys) ∧ Below wr.heap.size wr.drew w') := clone_strs a.keys _ _ wr.drew (hkA.keep (by exact Nat.le_refl _) fun _ _ _ => rfl) (by rw [HN0.out]; omega)
        have HKbW : Hid (∀ W, Below wr.heap.size wr W → Sl W (fun k => k < w.heap.size) (.slice A1 n1 c1) (strs b.keys)) := fun W hW => (HKb.out.later HSr.out.be).keep hW.size fun k hk hl => hW.block k hl
        have HSW : Hid (∀ W, Below wr.heap.size wr W → (W.cell? ⟨w.heap.size, 3, none⟩ = some (.slice A0 n0 c0) ∧ W.cell? ⟨w.heap.size + 1, 3, none⟩ = some (.slice A1 n1 c1))) := fun W hW => ⟨(hW.cell (p := ⟨w.heap.size, 3, none⟩) HSr.out.h0.lt).trans x3, (hW.cell (p := ⟨w.heap.size + 1, 3, none⟩) HSr.out.h1.lt).trans y3⟩
        have hdr := (Below.refl wr.heap.size wr).drew
        have hS0 := HSW.out wr.drew hdr
        clear x0 x1 x2 x3 x4 y0 y1 y2 y3 y4 hkA
        go_upto_region 16 with (fail)
        go_region_held_law (fun W => (W.cell? ⟨w.heap.size, 3, none⟩ = some (.slice A0 n0 c0) ∧ W.cell? ⟨w.heap.size + 1, 3, none⟩ = some (.slice A1 n1 c1)))
          (first | exact hS0 | exact HSW.out _ (by assumption) | assumption | (refine HSW.out _ ?_; exact hb5'))
          ((first | (go_simp; go_at_call 16; refine HClA.out.mono ?_; rintro e w4 ⟨v4, rfl, ho4, hb4⟩; have hbr : Below wr.heap.size wr w4 := hdr.trans hb4; obtain ⟨Av, cv, rfl⟩ := own_form ho4) | (refine step_append_slf eSt (by rfl) (.tmp 94) (.tmp 96) (by rfl) wr.heap.size _ _ _ (by rfl) ho4 _ _ _ _ _ (by rfl) (HKbW.out _ hbr) (strs_one _) (by have := HN0.out; have := HN1.out; simp only [strs, List.length_map]; omega) (by omega) (by have := hbr.size; omega) ?_; intro Ax cx w5 ho5 hg5 hk5; have hb5' : Below wr.heap.size wr w5 := hbr.grown hg5 hbr.size (fun k hk => (own_lt ho4 k hk).1))))
        have HSx := Lib.hid (HSr.out.later hb5')
        have HBx := Lib.hid (HBr.out.below hb5' HBr.out.lt)
        have HVx := Lib.hid (HVr.out.later hb5')
        have HLx : Hid (Sl w5 (fun _ => True) (.slice Ax (a.keys.length + n1) cx) (strs (a.keys ++ b.keys))) := by
          have h := (Sl.of_own ho5).mono (ok' := fun _ => True) fun _ _ _ => trivial
          have e : strs a.keys ++ strs b.keys = strs (a.keys ++ b.keys) := by simp [strs]
          rwa [e] at h
        have hlab : Hid ((a.keys ++ b.keys).length = a.keys.length + n1) := by unfold Hid; rw [List.length_append, HN1.out]
        have HLab := Lib.hid (fun k (hk : k ∈ a.keys ++ b.keys) => (List.mem_append.1 hk).elim (HLa.out k) (HLb.out k))
        have hnab : a.keys.length + n1 ≤ 512 := by have := HN0.out; omega
        generalize a.keys ++ b.keys = AB at *
        generalize hNN : a.keys.length + n1 = NN at *
        have HNN : Hid ((NN : Int) = (a.keys.length : Int) + (n1 : Int)) := by unfold Hid; omega
        clear hNN hb4 hbr ho4 ho5 hg5 hk5 hS0 HSW HClA HKbW HSr HBr HVr hb5'
        go_wp2_with fail
        go_loopw [14, 15, 16, 99] (fun _ _ _ v99 wz => True ∧ ∃ l : Nat, l ≤ NN ∧ v99 = .int .i64 l ∧ St2 w wz ⟨.int .i64 k0, .int .i64 i0, .string T0, .slice A0 n0 c0, .slice E0 m0 d0⟩ ⟨.int .i64 k1, .int .i64 i1, .string T1, .slice A1 n1 c1, .slice E1 m1 d1⟩ ∧ B5 wz bm ⟨.int .i64 k2, .int .i64 i2, .string T2, .slice A2 n2 c2, .slice E2 m2 d2⟩ ∧ ObjV (fun _ => True) wz ⟨.int .i64 k2, .int .i64 i2, .string T2, .slice A2 n2 c2, .slice E2 m2 d2⟩ m ∧ Sl wz (fun _ => True) (.slice Ax NN cx) (strs AB)) (fun _ _ _ v99 _ => NN - (intOf v99).toNat)
        case atStart => exact ⟨trivial, 0, Nat.zero_le _, rfl, HSx.out, HBx.out, HVx.out, HLx.out⟩
        case round =>
          obtain ⟨-, l, hl, rfl, hst, hb3, hv3, hsl⟩ := hrel
          have HSz := Lib.hid hst
          have HBz := Lib.hid hb3
          have HVz := Lib.hid hv3
          have HLz := Lib.hid hsl
          clear hst hb3 hv3 hsl HSx HBx HVx HLx
          by_cases hltl : l < NN
          · have hlal : (l : Int) < (a.keys.length : Int) + (n1 : Int) := by have := HNN.out; omega
            have hlal2 : (l : Int) < (NN : Int) := by omega
            have hlk : l < AB.length := by have := hlab.out; omega
            obtain ⟨pb, po, ea, hpb, hpcell⟩ := HLz.out.plainA (by simp [strs]; omega)
            subst ea
            have hcs2 := hpcell l (.string ⟨(AB[l]'hlk).toArray⟩) (by simp [strs, hlk])
            have hmem : AB[l]'hlk ∈ AB := List.getElem_mem hlk
            have hlen := HLab.out _ hmem
            obtain ⟨x, hgm⟩ := HAll.out _ hmem
            generalize AB[l]'hlk = kk at *
            clear hpcell hmem
            generalize hks : (⟨kk.toArray⟩ : ByteArray) = SS at *
            have HKk := Lib.hid hks
            clear hks
            have z0 := HBz.out.lt
            obtain ⟨x0, x1, x2, x3, x4⟩ := b5_cells (v := ⟨.int .i64 k2, .int .i64 i2, .string T2, .slice A2 n2 c2, .slice E2 m2 d2⟩) HBz.out
            dsimp only at x0 x1 x2 x3 x4
            have hal := (Below.refl wr.heap.size wr).alloc (Nat.le_refl _) (.cells #[.string SS] 9)
            have HSra := Lib.hid (HSz.out.later hal)
            have HBra := Lib.hid (HBz.out.below hal HBz.out.lt)
            have HVra := Lib.hid (HVz.out.later hal)
            have HLra := Lib.hid (HLz.out.later hal)
            have hget := HGet.out m ⟨.int .i64 k2, .int .i64 i2, .string T2, .slice A2 n2 c2, .slice E2 m2 d2⟩ wr.heap.size kk _ (by omega) HSra.out.be (by rw [HKk.out]; exact Blk.new wr _ _) HVra.out
            rw [hgm] at hget
            have HGet1 := Lib.hid hget
            clear hget hgm hal HSz HBz HVz HLz
            go_wp2_with fail
            refine HGet1.out.mono ?_
            clear HGet1 x0 x1 x2 x3 x4 z0 hcs2 hpb
            generalize wr.alloc (.cells #[.string SS] 9) = ra at *
            rintro e w4 hp
            obtain ⟨hb4, u4, rfl, hov⟩ := ob_res hp
            have HOv := Lib.hid hov
            have hst4 := HSra.out.later hb4
            have hHBra4 := HBra.out.below hb4 HBra.out.lt
            have hHVra4 := HVra.out.later hb4
            have hLra4 := HLra.out.later hb4
            dsimp only [codeR, resR] at hov HOv ⊢
            obtain ⟨kv4, dv4, us4, rfl, s1, s2, -, -⟩ := hov.open_
            obtain ⟨A4, c4, rfl⟩ := s1.form
            obtain ⟨E4, d4, rfl⟩ := s2.form
            clear s1 s2
            unfold V5.val
            dsimp only
            generalize (strs x.keys).length = n4 at *
            generalize x.kids.length = m4 at *
            generalize x.kind = k4 at *
            generalize x.int = i4 at *
            generalize (⟨x.text.toArray⟩ : ByteArray) = T4 at *
            have hal := (Below.refl w4.heap.size w4).alloc (Nat.le_refl _) (.cells #[.int .i64 k4, .int .i64 i4, .string T4, .slice A4 n4 c4, .slice E4 m4 d4] 25)
            have HS5 := Lib.hid (hst4.later hal)
            have HB5 := Lib.hid (hHBra4.below hal hHBra4.lt)
            have HV5 := Lib.hid (hHVra4.later hal)
            have HL5 := Lib.hid (hLra4.later hal)
            clear hp hb4 hov HOv hst4 hHBra4 hHVra4 hLra4 hal HSra HBra HVra HLra
            go_wp2_with fail
            refine ⟨⟨trivial, l + 1, by omega, by go_num, HS5.out, HB5.out, HV5.out, HL5.out⟩, by simp [intOf]; omega⟩
          · have HBe := Lib.hid HSz.out.be
            have hlal : ¬ ((l : Int) < (a.keys.length : Int) + (n1 : Int)) := by have := HNN.out; omega
            go_wp2_with fail
            go_ret
            exact ⟨rfl, HBe.out⟩
end Go.Proofs.YthbdhijkdldmoaaGreatDoor
