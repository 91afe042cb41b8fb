/- The law of a dictionary's other entries walked. -/
import Derived.Test.YthbdhijkdldmoaaGreatDoorObjLw2
namespace Go.Proofs.YthbdhijkdldmoaaGreatDoor
open Go.RowKit Tk Ob
def cntK (key : Tk.Src) : List Tk.Src → Nat
  | [] => 0
  | k :: r => (if k = key then 1 else 0) + cntK key r
theorem cntK_append (key : Tk.Src) : ∀ a b : List Tk.Src, cntK key (a ++ b) = cntK key a + cntK key b
  | [], b => by simp [cntK]
  | x :: a, b => by simp only [List.cons_append, cntK, cntK_append key a b]; omega
theorem cnt_step (key : Tk.Src) (ks : List Tk.Src) (j : Nat) (h : j < ks.length) : cntK key (ks.take (j + 1)) = cntK key (ks.take j) + if ks[j] = key then 1 else 0 := by
  rw [List.take_add_one, cntK_append, List.getElem?_eq_getElem h]
  simp [cntK]
theorem cnt_none (key : Tk.Src) : ∀ ks : List Tk.Src, key ∉ ks → cntK key ks = 0
  | [], _ => rfl
  | k :: r, h => by
    have h' : key ≠ k ∧ key ∉ r := by simpa using h
    simp only [cntK, cnt_none key r h'.2]
    rw [if_neg (fun e => h'.1 e.symm)]
theorem cnt_sorted (key : Tk.Src) : ∀ ks : List Tk.Src, Sorted ks → cntK key ks = if key ∈ ks then 1 else 0
  | [], _ => rfl
  | k :: r, hs => by
    have hs' := List.pairwise_cons.1 hs
    by_cases e : k = key
    · subst e
      have hn : k ∉ r := fun h => by have := hs'.1 k h; rw [ltB_irr] at this; cases this
      simp only [cntK, cnt_none k r hn, if_true, List.mem_cons, true_or]
    · have e' : ¬ key = k := fun h => e h.symm
      simp only [cntK, if_neg e, cnt_sorted key r hs'.2, List.mem_cons, e', false_or, Nat.zero_add]
theorem cnt_le (key : Tk.Src) : ∀ ks : List Tk.Src, cntK key ks ≤ ks.length
  | [] => Nat.le_refl _
  | k :: r => by
    have := cnt_le key r
    simp only [cntK, List.length_cons]
    split <;> omega
theorem keysE_len : ∀ (ks : List Tk.Src) (p : Option Tk.Src), keysE p ks = 0 → ∀ k ∈ ks, k.length ≤ 31
  | [], _, _ => fun k h => by cases h
  | a :: r, p, h => by
    have key : nameE a = 0 ∧ ∃ q, keysE q r = 0 := by
      simp only [keysE] at h
      split at h
      · contradiction
      · rename_i h1
        refine ⟨by simpa using h1, some a, ?_⟩
        cases p with
        | none => simpa using h
        | some q =>
          dsimp only at h
          split at h
          · cases h
          · exact h
    intro k hk
    rcases List.mem_cons.1 hk with rfl | hk
    · have h1 := key.1
      unfold nameE at h1
      split at h1
      · cases h1
      split at h1
      · cases h1
      · omega
    · obtain ⟨q, hq⟩ := key.2
      exact keysE_len r q hq k hk
theorem key_len {o : Ox} (h : Ad o) : ∀ k ∈ o.keys, k.length ≤ 31 := by
  obtain ⟨d, hn⟩ := h.node
  exact keysE_len _ _ (nodeE_zero hn).2.2.2.2.2.2.2.2.2.2
theorem other_facts {o V p : Ox} {key : Tk.Src} (h7 : o.kind = 7) (h : setF o [key] V = .ok p) :
    Ad o ∧ p.keys.length + cntK key o.keys = o.keys.length + 1 ∧ ∀ k ∈ o.keys, k ≠ key → ∃ x, getF o [k] = .ok x ∧ getF p [k] = .ok x := by
  have h0 := set_check h
  have had := check_ad h0
  have hso := had.small.2.2
  have hl := had.lens h7
  unfold setF at h
  rw [if_neg (by rw [h0]; simp)] at h
  split at h
  · cases h
  rw [if_neg (by simp), edit_dict h7] at h
  dsimp only at h
  split at h
  · cases h
  rename_i h3
  have h3 : checkO (putD o key V) = 0 := by simpa using h3
  cases h
  refine ⟨had, by rw [cnt_sorted key _ hso]; exact put_count key V hso, fun k hk hne => ?_⟩
  obtain ⟨j, hj, rfl, hp⟩ := pos_mem hso hk
  have e : look o o.keys[j] = some (o.kids.getD j Ox.zero) := by unfold look lookK; rw [hp]; simp
  refine ⟨o.kids.getD j Ox.zero, ?_, ?_⟩
  · unfold getF; rw [if_neg (by rw [h0]; simp), get_dict h7, e]
  · unfold getF; rw [if_neg (by rw [h3]; simp), get_dict (by rw [put_kind]; exact h7), look_put hso hl, if_neg hne, e]
theorem sl_one {W : World} {g : Nat} {k : Tk.Src} (h : Blk W g 9 #[.string ⟨k.toArray⟩]) : Sl W (fun _ => True) (.slice (some ⟨g, 0, none⟩) 1 1) (strs [k]) := by
  have hrow : W.ownsRow 0 9 1 (.slice (some ⟨g, 0, none⟩) 1 1) 1 (strs [k]) := ⟨rfl, .inr ⟨g, 1, #[.string ⟨k.toArray⟩], rfl, Nat.zero_le _, h, Nat.le_refl _, by unfold maxLen; omega, by simp, by simp [strs]⟩⟩
  exact (Sl.of_own hrow).mono fun _ _ _ => trivial
set_option maxRecDepth 100000 in
set_option maxHeartbeats 16000000 in
theorem other_law (P P2 : Nat → Prop) (o V : Ox) (vo vV : V5) (key : Tk.Src) (w : World) (ho : ObjV P w vo o) (hV : ObjV P2 w vV V) (hs : key.length ≤ 140737488355328) (hT : Tab10 w) (hE : ErrT w) :
    Calls Tryz.prog 7 #[vo.val, vV.val, .string ⟨key.toArray⟩] w fun e w' => e = .returned (.bool true) ∧ Below w.heap.size w w' := by
  have HPs : Hid (∀ W, Below w.heap.size w W → Calls Tryz.prog 9 #[] W fun e w' => e = .returned (.bool true) ∧ Below W.heap.size W w') := fun W h => parses_any W (hT.later h) (hE.later h)
  have HSet : Hid (∀ (x y : Ox) (vx vy : V5) (g : Nat) (k : Tk.Src) (W : World), k.length ≤ 140737488355328 → Below w.heap.size w W → Blk W g 9 #[.string ⟨k.toArray⟩] → ObjV (fun _ => True) W vx x → ObjV (fun _ => True) W vy y → Calls Tryz.prog 17 #[vx.val, .slice (some ⟨g, 0, none⟩) 1 1, vy.val] W (ObPost (setF x [k] y) W)) := fun x y vx vy g k W hk hW hg hx hy => set_any _ _ _ x y vx vy _ [k] W hx hy (sl_one hg) (fun s hs => by simp at hs; subst hs; exact hk) (hT.later hW) (hE.later hW)
  have HGet : Hid (∀ (x : Ox) (vx : V5) (g : Nat) (k : Tk.Src) (W : World), k.length ≤ 140737488355328 → Below w.heap.size w W → Blk W g 9 #[.string ⟨k.toArray⟩] → ObjV (fun _ => True) W vx x → Calls Tryz.prog 15 #[vx.val, .slice (some ⟨g, 0, none⟩) 1 1] W (ObPost (getF x [k]) W)) := fun x vx g k W hk hW hg hx => get_any _ _ x vx _ [k] W hx (sl_one hg) (fun s hs => by simp at hs; subst hs; exact hk) (hT.later hW) (hE.later hW)
  have HVo : Hid (∀ W, Below w.heap.size w W → ObjV (fun _ => True) W vo o ∧ ObjV (fun _ => True) W vV V) := fun W hW => ⟨(ho.later hW).mono fun _ _ _ => trivial, (hV.later hW).mono fun _ _ _ => trivial⟩
  have HFe : Hid (∀ e, setF o [key] V = .error e → e ≠ 0) := fun e h => setF_err h
  have HF : Hid (o.kind = 7 → ∀ p, setF o [key] V = .ok p → Ad o ∧ p.keys.length + cntK key o.keys = o.keys.length + 1 ∧ ∀ k ∈ o.keys, k ≠ key → ∃ x, getF o [k] = .ok x ∧ getF p [k] = .ok x) := fun h7 p h => other_facts h7 h
  have HSp : Hid (Sl w (fun k => k < w.heap.size) (vo.ks) (strs o.keys)) := by
    obtain ⟨kv, dv, us, rfl, s1, -, -, -⟩ := ho.open_
    exact s1.mono fun k hk _ => hk
  obtain ⟨kv0, dv0, us0, rfl, s1, s2, -, -⟩ := ho.open_
  obtain ⟨A0, c0, rfl⟩ := s1.form
  obtain ⟨E0, d0, rfl⟩ := s2.form
  clear s1 s2
  obtain ⟨kv1, dv1, us1, rfl, s1, s2, -, -⟩ := hV.open_
  obtain ⟨A1, c1, rfl⟩ := s1.form
  obtain ⟨E1, d1, rfl⟩ := s2.form
  clear s1 s2
  have hpl : (strs o.keys).length = o.keys.length := by simp [strs]
  unfold V5.val
  dsimp only at HSp ⊢
  generalize (strs V.keys).length = n1 at *
  generalize V.kids.length = m1 at *
  generalize V.kind = k1 at *
  generalize V.int = i1 at *
  generalize (⟨V.text.toArray⟩ : ByteArray) = T1 at *
  rw [hpl] at HVo HSp ⊢
  generalize hn0 : o.keys.length = n0 at *
  have HN0 := Lib.hid hn0
  generalize o.kids.length = m0 at *
  generalize o.int = i0 at *
  generalize (⟨o.text.toArray⟩ : ByteArray) = T0 at *
  generalize hk0 : o.kind = k0 at *
  generalize hkS : (⟨key.toArray⟩ : ByteArray) = kS at *
  have HKS := Lib.hid hkS
  clear ho hV hT hE hpl hn0 hk0 hkS
  have HSt := Lib.hid (St2.new w ⟨.int .i64 k0, .int .i64 i0, .string T0, .slice A0 n0 c0, .slice E0 m0 d0⟩ ⟨.int .i64 k1, .int .i64 i1, .string T1, .slice A1 n1 c1, .slice E1 m1 d1⟩)
  go_enter Tryz.func7, Tryz.ntmps7
  go_wp2_with fail
  refine (HPs.out _ HSt.out.be).mono ?_
  rintro e w1 ⟨rfl, hb⟩
  have HSt1 := Lib.hid (HSt.out.later hb)
  clear hb HSt
  have z0 := HSt1.out.h0.lt
  have z1 := HSt1.out.h1.lt
  obtain ⟨x0, x1, x2, x3, x4⟩ := b5_cells (v := ⟨.int .i64 k0, .int .i64 i0, .string T0, .slice A0 n0 c0, .slice E0 m0 d0⟩) HSt1.out.h0
  obtain ⟨y0, y1, y2, y3, y4⟩ := b5_cells (v := ⟨.int .i64 k1, .int .i64 i1, .string T1, .slice A1 n1 c1, .slice E1 m1 d1⟩) HSt1.out.h1
  dsimp only at x0 x1 x2 x3 x4 y0 y1 y2 y3 y4
  go_wp2_with fail
  have hb1 := (Below.refl w1.heap.size w1).alloc (Nat.le_refl _) (.cells #[.string kS] 9)
  have HSt2 := Lib.hid (HSt1.out.later hb1)
  have hset := HSet.out o V ⟨.int .i64 k0, .int .i64 i0, .string T0, .slice A0 n0 c0, .slice E0 m0 d0⟩ ⟨.int .i64 k1, .int .i64 i1, .string T1, .slice A1 n1 c1, .slice E1 m1 d1⟩ w1.heap.size key _ hs HSt2.out.be (by rw [HKS.out]; exact Blk.new w1 _ _) (HVo.out _ HSt2.out.be).1 (HVo.out _ HSt2.out.be).2
  have HSet2 := Lib.hid hset
  clear hset x0 x1 x2 x3 x4 y0 y1 y2 y3 y4 z0 z1 hb1 HSt1
  refine HSet2.out.mono ?_
  clear HSet2
  generalize w1.alloc (.cells #[.string kS] 9) = xa at *
  rintro e w2 hp
  obtain ⟨hb2, u2, rfl, hov⟩ := ob_res hp
  have HOv := Lib.hid hov
  have hst2 := HSt2.out.later hb2
  obtain ⟨kv2, dv2, us2, rfl, s1, s2, -, -⟩ := hov.open_
  obtain ⟨A2, c2, rfl⟩ := s1.form
  obtain ⟨E2, d2, rfl⟩ := s2.form
  clear s1 s2
  unfold V5.val
  dsimp only
  generalize hsr : setF o [key] V = R at *
  generalize hn2 : (strs (resR R).keys).length = n2 at *
  have HN2 := Lib.hid hn2
  clear hn2
  generalize (resR R).kids.length = m2 at *
  generalize (resR R).kind = k2 at *
  generalize (resR R).int = i2 at *
  generalize (⟨(resR R).text.toArray⟩ : ByteArray) = T2 at *
  have HSt3 : Hid (St2 w (w2.alloc (.cells #[.int .i64 k2, .int .i64 i2, .string T2, .slice A2 n2 c2, .slice E2 m2 d2] 25)) ⟨.int .i64 k0, .int .i64 i0, .string T0, .slice A0 n0 c0, .slice E0 m0 d0⟩ ⟨.int .i64 k1, .int .i64 i1, .string T1, .slice A1 n1 c1, .slice E1 m1 d1⟩) := hst2.later ((Below.refl _ _).alloc (Nat.le_refl _) _)
  have HB3 : Hid (B5 (w2.alloc (.cells #[.int .i64 k2, .int .i64 i2, .string T2, .slice A2 n2 c2, .slice E2 m2 d2] 25)) w2.heap.size ⟨.int .i64 k2, .int .i64 i2, .string T2, .slice A2 n2 c2, .slice E2 m2 d2⟩) := Blk.new w2 _ _
  have HV3 : Hid (ObjV (fun _ => True) (w2.alloc (.cells #[.int .i64 k2, .int .i64 i2, .string T2, .slice A2 n2 c2, .slice E2 m2 d2] 25)) ⟨.int .i64 k2, .int .i64 i2, .string T2, .slice A2 n2 c2, .slice E2 m2 d2⟩ (resR R)) := HOv.out.alloc _
  have z0 := hst2.h0.lt
  obtain ⟨x0, x1, x2, x3, x4⟩ := b5_cells (v := ⟨.int .i64 k0, .int .i64 i0, .string T0, .slice A0 n0 c0, .slice E0 m0 d0⟩) hst2.h0
  dsimp only at x0 x1 x2 x3 x4
  clear hp hb2 hov HOv hst2 HSt2
  cases R with
  | error c =>
    have hcb3 : (c != 0) = true := by simpa using HFe.out c rfl
    dsimp only [codeR]
    clear hsr HFe HF
    go_wp2_with fail
    go_ret
    exact ⟨rfl, HSt3.out.be⟩
  | ok q =>
    have hcb3 : ((0 : Int) != 0) = false := rfl
    dsimp only [codeR, resR] at HV3 ⊢
    by_cases h7 : k0 = 7
    case neg =>
      have hkb : (k0 != 7) = true := by simpa using h7
      clear hsr HFe HF h7
      go_wp2_with fail
      go_ret
      exact ⟨rfl, HSt3.out.be⟩
    obtain ⟨had, hcnt, hoth⟩ := HF.out h7 q rfl
    have HLen := Lib.hid (key_len had)
    have hn256 : n0 ≤ 256 := by have := had.small.1; have := HN0.out; omega
    have HOth := Lib.hid hoth
    have HCnt : Hid ((q.keys.length : Int) = (n0 : Int) + 1 - (cntK key o.keys : Int)) := by have := HN0.out; unfold Hid; omega
    have HCl : Hid (∀ j, j ≤ n0 → cntK key (o.keys.take j) ≤ j) := fun j hj => by
      have := cnt_le key (o.keys.take j)
      rw [List.length_take, HN0.out] at this; omega
    subst h7
    have hkb : ((7 : Int) != 7) = false := rfl
    clear hsr HFe HF had hcnt hoth
    go_wp2_with fail
    have hq0 : (0 : Int) ≤ (n0 : Int) := by omega
    have hx2 : w2.heap.size < (w2.alloc (.cells #[.int .i64 k2, .int .i64 i2, .string T2, .slice A2 n2 c2, .slice E2 m2 d2] 25)).heap.size := HB3.out.lt
    clear x0 x1 x2 x3 x4 z0
    generalize w2.alloc (.cells #[.int .i64 k2, .int .i64 i2, .string T2, .slice A2 n2 c2, .slice E2 m2 d2] 25) = x3 at *
    generalize w2.heap.size = b7 at *
    go_loopw [9, 11, 12, 13, 14, 15, 39] (fun v9 _ _ _ _ _ v39 wr => True ∧ ∃ j : Nat, j ≤ n0 ∧ v39 = .int .i64 j ∧ v9 = .int .i64 ((n0 : Int) - (cntK key (o.keys.take j) : Int)) ∧ St2 w wr ⟨.int .i64 7, .int .i64 i0, .string T0, .slice A0 n0 c0, .slice E0 m0 d0⟩ ⟨.int .i64 k1, .int .i64 i1, .string T1, .slice A1 n1 c1, .slice E1 m1 d1⟩ ∧ B5 wr b7 ⟨.int .i64 k2, .int .i64 i2, .string T2, .slice A2 n2 c2, .slice E2 m2 d2⟩ ∧ ObjV (fun _ => True) wr ⟨.int .i64 k2, .int .i64 i2, .string T2, .slice A2 n2 c2, .slice E2 m2 d2⟩ q) (fun _ _ _ _ _ _ v39 _ => n0 - (intOf v39).toNat)
    case atStart => exact ⟨trivial, 0, Nat.zero_le _, rfl, by simp [cntK], HSt3.out, HB3.out, HV3.out⟩
    case round =>
      obtain ⟨-, j, hj, rfl, rfl, hst, hb3, hv3⟩ := hrel
      have HSr := Lib.hid hst
      have HBr := Lib.hid hb3
      have HVr := Lib.hid hv3
      clear hst hb3 hv3 HSt3 HB3 HV3
      have hcj := HCl.out j hj
      by_cases hlt : j < n0
      · have hla : (j : Int) < (n0 : Int) := by omega
        have hjk : j < o.keys.length := by rw [HN0.out]; exact hlt
        obtain ⟨pb, po, rfl, hpb, hpcell⟩ := HSp.out.plainA (by simp [strs]; omega)
        have hcs := hpcell j (.string ⟨(o.keys[j]'hjk).toArray⟩) (by simp [strs, hjk])
        have hcs2 := (HSr.out.be.cell (p := ⟨pb, po + j, none⟩) hpb).trans hcs
        have hmem : o.keys[j]'hjk ∈ o.keys := List.getElem_mem hjk
        have hstp := cnt_step key o.keys j hjk
        have hlen := HLen.out _ hmem
        have HOj := Lib.hid (HOth.out _ hmem)
        generalize o.keys[j]'hjk = kk at *
        have HStp := Lib.hid hstp
        clear hpcell hcs hstp hmem
        generalize hks : (⟨kk.toArray⟩ : ByteArray) = SS at *
        have HKk := Lib.hid hks
        clear hks
        by_cases hkk : kk = key
        · have hss : SS = kS := by rw [← HKk.out, hkk, HKS.out]
          subst hss
          rw [if_pos hkk] at HStp
          go_wp2_with fail
          refine ⟨⟨trivial, j + 1, by omega, by go_num, by rw [HStp.out]; go_num, HSr.out, HBr.out, HVr.out⟩, by simp [intOf]; omega⟩
        · have hsb : (SS.toList == kS.toList) = false := by
            rw [← HKk.out, ← HKS.out]
            exact beq_eq_false_iff_ne.2 (by rw [Lib.toList_data, Lib.toList_data]; exact hkk)
          rw [if_neg hkk] at HStp
          obtain ⟨x, hg1, hg2⟩ := HOj.out hkk
          have z0 := HSr.out.h0.lt
          obtain ⟨x0, x1, x2, x3, x4⟩ := b5_cells (v := ⟨.int .i64 7, .int .i64 i0, .string T0, .slice (some ⟨pb, po, none⟩) n0 c0, .slice E0 m0 d0⟩) HSr.out.h0
          dsimp only at x0 x1 x2 x3 x4
          go_wp2_with fail
          have hal := (Below.refl wr.heap.size wr).alloc (Nat.le_refl _) (.cells #[.string SS] 9)
          have HSra := Lib.hid (HSr.out.later hal)
          have HBra := Lib.hid (HBr.out.below hal HBr.out.lt)
          have HVra := Lib.hid (HVr.out.later hal)
          have hget := HGet.out o ⟨.int .i64 7, .int .i64 i0, .string T0, .slice (some ⟨pb, po, none⟩) n0 c0, .slice E0 m0 d0⟩ wr.heap.size kk _ (by omega) HSra.out.be (by rw [HKk.out]; exact Blk.new wr _ _) (HVo.out _ HSra.out.be).1
          rw [hg1] at hget
          have HGet1 := Lib.hid hget
          clear hget hg1 x0 x1 x2 x3 x4 z0 hal HSr HBr HVr
          refine HGet1.out.mono ?_
          clear HGet1
          generalize wr.alloc (.cells #[.string SS] 9) = ra at *
          rintro e w4 hp
          obtain ⟨hb4, u4, rfl, hov⟩ := ob_res hp
          have HOv := Lib.hid hov
          have hst4 := HSra.out.later hb4
          have hHBra4 := HBra.out.below hb4 HBra.out.lt
          have hHVra4 := HVra.out.later hb4
          dsimp only [codeR, resR] at hov HOv ⊢
          obtain ⟨kv4, dv4, us4, rfl, s1, s2, -, -⟩ := hov.open_
          obtain ⟨A4, c4, rfl⟩ := s1.form
          obtain ⟨E4, d4, rfl⟩ := s2.form
          clear s1 s2
          unfold V5.val
          dsimp only
          generalize (strs x.keys).length = n4 at *
          generalize x.kids.length = m4 at *
          generalize x.kind = k4 at *
          generalize x.int = i4 at *
          generalize (⟨x.text.toArray⟩ : ByteArray) = T4 at *
          have hal := ((Below.refl w4.heap.size w4).alloc (Nat.le_refl _) (.cells #[.int .i64 k4, .int .i64 i4, .string T4, .slice A4 n4 c4, .slice E4 m4 d4] 25)).alloc (by simp) (.cells #[.string SS] 9)
          have HS5 := Lib.hid (hst4.later hal)
          have HB5 := Lib.hid (hHBra4.below hal hHBra4.lt)
          have HV5 := Lib.hid (hHVra4.later hal)
          have HN5 : Hid (B5 ((w4.alloc (.cells #[.int .i64 k4, .int .i64 i4, .string T4, .slice A4 n4 c4, .slice E4 m4 d4] 25)).alloc (.cells #[.string SS] 9)) w4.heap.size ⟨.int .i64 k4, .int .i64 i4, .string T4, .slice A4 n4 c4, .slice E4 m4 d4⟩) := (Blk.new w4 _ _).alloc _
          have HX5 := Lib.hid (HOv.out.later hal)
          have hblk : Blk ((w4.alloc (.cells #[.int .i64 k4, .int .i64 i4, .string T4, .slice A4 n4 c4, .slice E4 m4 d4] 25)).alloc (.cells #[.string SS] 9)) (w4.heap.size + 1) 9 #[.string SS] := by
            have := Blk.new (w4.alloc (.cells #[.int .i64 k4, .int .i64 i4, .string T4, .slice A4 n4 c4, .slice E4 m4 d4] 25)) 9 #[.string SS]
            simpa using this
          have hget := HGet.out q ⟨.int .i64 k2, .int .i64 i2, .string T2, .slice A2 n2 c2, .slice E2 m2 d2⟩ (w4.heap.size + 1) kk _ (by omega) HS5.out.be (by rw [HKk.out]; exact hblk) HV5.out
          rw [hg2] at hget
          have HGet2 := Lib.hid hget
          have z7 := hHBra4.lt
          obtain ⟨x0, x1, x2, x3, x4⟩ := b5_cells (v := ⟨.int .i64 k2, .int .i64 i2, .string T2, .slice A2 n2 c2, .slice E2 m2 d2⟩) hHBra4
          dsimp only at x0 x1 x2 x3 x4
          clear hp hb4 hov HOv hst4 hHBra4 hHVra4 hal hblk hget hg2 HSra HBra HVra
          go_wp2_with fail
          refine HGet2.out.mono ?_
          clear HGet2 x0 x1 x2 x3 x4 z7
          generalize hx5 : ((w4.alloc (.cells #[.int .i64 k4, .int .i64 i4, .string T4, .slice A4 n4 c4, .slice E4 m4 d4] 25)).alloc (.cells #[.string SS] 9)) = x5 at *
          have hz5 : w4.heap.size < x5.heap.size := HN5.out.lt
          clear hx5
          rintro e w6 hp
          obtain ⟨hb6, u6, rfl, hov⟩ := ob_res hp
          have HOv := Lib.hid hov
          have hst6 := HS5.out.later hb6
          have hHB56 := HB5.out.below hb6 HB5.out.lt
          have hHV56 := HV5.out.later hb6
          have hHN56 := HN5.out.below hb6 HN5.out.lt
          have hHX56 := HX5.out.later hb6
          have hz6 := hb6.size
          dsimp only [codeR, resR] at hov HOv ⊢
          obtain ⟨kv6, dv6, us6, rfl, s1, s2, -, -⟩ := hov.open_
          obtain ⟨A6, c6, rfl⟩ := s1.form
          obtain ⟨E6, d6, rfl⟩ := s2.form
          clear s1 s2
          unfold V5.val
          dsimp only
          generalize (strs x.keys).length = n6 at *
          generalize x.kids.length = m6 at *
          generalize x.kind = k6 at *
          generalize x.int = i6 at *
          generalize (⟨x.text.toArray⟩ : ByteArray) = T6 at *
          have hal := (Below.refl w6.heap.size w6).alloc (Nat.le_refl _) (.cells #[.int .i64 k6, .int .i64 i6, .string T6, .slice A6 n6 c6, .slice E6 m6 d6] 25)
          have HS7 := Lib.hid (hst6.later hal)
          have HB7 := Lib.hid (hHB56.below hal hHB56.lt)
          have HV7 := Lib.hid (hHV56.later hal)
          have HSm : Hid (Calls Tryz.prog 13 #[.agg #[.int .i64 k4, .int .i64 i4, .string T4, .slice A4 n4 c4, .slice E4 m4 d4], .agg #[.int .i64 k6, .int .i64 i6, .string T6, .slice A6 n6 c6, .slice E6 m6 d6]] (w6.alloc (.cells #[.int .i64 k6, .int .i64 i6, .string T6, .slice A6 n6 c6, .slice E6 m6 d6] 25)) fun e w' => e = .returned (.bool true) ∧ Below (w6.alloc (.cells #[.int .i64 k6, .int .i64 i6, .string T6, .slice A6 n6 c6, .slice E6 m6 d6] 25)).heap.size (w6.alloc (.cells #[.int .i64 k6, .int .i64 i6, .string T6, .slice A6 n6 c6, .slice E6 m6 d6] 25)) w') := same_same (va := ⟨.int .i64 k4, .int .i64 i4, .string T4, .slice A4 n4 c4, .slice E4 m4 d4⟩) (vb := ⟨.int .i64 k6, .int .i64 i6, .string T6, .slice A6 n6 c6, .slice E6 m6 d6⟩) (hHX56.alloc _) (HOv.out.alloc _)
          have z7 := hHN56.lt
          obtain ⟨x0, x1, x2, x3, x4⟩ := b5_cells (v := ⟨.int .i64 k4, .int .i64 i4, .string T4, .slice A4 n4 c4, .slice E4 m4 d4⟩) hHN56
          dsimp only at x0 x1 x2 x3 x4
          clear hp hb6 hov HOv hst6 hHB56 hHV56 hHN56 hHX56 hal HS5 HB5 HV5 HN5 HX5
          go_wp2_with fail
          refine HSm.out.mono ?_
          rintro e w7 ⟨rfl, hb7⟩
          have HS8 := Lib.hid (HS7.out.later hb7)
          have HB8 := Lib.hid (HB7.out.below hb7 HB7.out.lt)
          have HV8 := Lib.hid (HV7.out.later hb7)
          clear hb7 HSm HS7 HB7 HV7 x0 x1 x2 x3 x4 z7
          go_wp2_with fail
          refine ⟨⟨trivial, j + 1, by omega, by go_num, by rw [HStp.out, Nat.add_zero], HS8.out, HB8.out, HV8.out⟩, by simp [intOf]; omega⟩
      · obtain rfl : j = n0 := by omega
        have hfull : o.keys.take j = o.keys := by rw [← HN0.out, List.take_length]
        rw [hfull]
        have hn2 : (n2 : Int) = (j : Int) - (cntK key o.keys : Int) + 1 := by
          have h1 := HN2.out
          have h2 := HCnt.out
          simp [strs, resR] at h1
          omega
        have hcl := HCl.out j (Nat.le_refl _)
        rw [hfull] at hcl
        generalize cntK key o.keys = C at *
        have hcmp : ((n2 : Int) == (j : Int) - (C : Int) + 1) = true := by simpa using hn2
        have HBe := Lib.hid HSr.out.be
        obtain ⟨x0, x1, x2, x3, x4⟩ := b5_cells (v := ⟨.int .i64 k2, .int .i64 i2, .string T2, .slice A2 n2 c2, .slice E2 m2 d2⟩) HBr.out
        dsimp only at x0 x1 x2 x3 x4
        clear hn2 hfull
        go_wp2_with fail
        go_ret
        exact ⟨rfl, HBe.out⟩
end Go.Proofs.YthbdhijkdldmoaaGreatDoor
