/- The walk of Put. -/
import Derived.Test.YtpfkmjckjomeeaaDoorArcName
import Derived.StillTailTactics
namespace Go.Proofs.YtpfkmjckjomeeaaDoor
open Go.RowKit Arc
open Go.Maps (Keyed)
theorem three_cells {w : World} {g : Nat} {t : TypeId} {a0 a1 a2 : Value} (h : Blk w g t #[a0, a1, a2]) :
    w.cell? ⟨g, 0, none⟩ = some a0 ∧ w.cell? ⟨g, 1, none⟩ = some a1 ∧ w.cell? ⟨g, 2, none⟩ = some a2 := ⟨h.cell 0, h.cell 1, h.cell 2⟩
/-- A name of small letters. -/
def Good (s : ByteArray) : Prop := 1 ≤ s.size ∧ s.size ≤ 16 ∧ ∀ (i : Nat) (h : i < s.size), 97 ≤ s[i].toNat ∧ s[i].toNat ≤ 122
set_option maxRecDepth 100000 in
set_option maxHeartbeats 4000000 in
theorem plain_any (s : ByteArray) (w : World) (h : Good s) :
    Calls Tryd.prog 30 #[.string s] w fun e w' => e = .returned (.bool true) ∧ w = w' := by
  obtain ⟨h1, h2, h3⟩ := h
  have HC := Lib.hid h3
  have hq := not_empty (r := s) (by omega)
  clear h3
  go_enter Tryd.func30, Tryd.ntmps30
  go_wp2
  go_loop [7] (fun v7 => ∃ i : Nat, i ≤ s.size ∧ v7 = .int .i64 (i : Int)) (fun v7 => s.size - (intOf v7).toNat)
  case atStart => exact ⟨0, by omega, rfl⟩
  case round =>
    obtain ⟨i, hi, rfl⟩ := hrel
    by_cases hlt : i < s.size
    · obtain ⟨c1, c2⟩ := HC.out i hlt
      have t1 : decide ((97 : Int) ≤ (s[i].toNat : Int)) = true := decide_eq_true (by omega)
      have t2 : decide ((s[i].toNat : Int) ≤ 122) = true := decide_eq_true (by omega)
      go_wp2
      go_round
      case rel => exact ⟨i + 1, by omega, by go_num⟩
      case measure => simp [intOf]; omega
    · obtain rfl : i = s.size := by omega
      have t3 : decide ((s.size : Int) ≤ 16) = true := decide_eq_true (by omega)
      go_wp2
      go_ret
      exact ⟨rfl, rfl⟩
set_option maxRecDepth 100000 in
set_option maxHeartbeats 4000000 in
theorem insert_end {B n c : Nat} {v : Value} {xs : List Value} (s : ByteArray) (ad : Addr) (w : World) (h : w.ownsRow B 9 1 v n xs) (hu : w.cell? ad = some (.string s)) (hn : n ≤ 1000000) (hB : B ≤ w.heap.size) :
    Calls Tryd.prog 31 #[v, .int .i64 (n : Int), .slice (some ad) 1 c] w fun e w' => ∃ v', e = .returned v' ∧ w'.ownsRow B 9 1 v' (n + 1) (xs ++ [.string s]) ∧ w.grownBy w' v.ownBlock ∧ (v'.ownBlock = v.ownBlock ∨ v'.ownBlock = some w.heap.size) := by
  have HO := Lib.hid h
  obtain ⟨A, cc, ev⟩ := own_form h
  have hcap : n ≤ cc ∧ cc ≤ 9223372036854775807 := by
    rcases h.2 with ⟨e, e2⟩ | ⟨g, cap, cur, e, _, _, h3, h4, _⟩
    · rw [ev] at e; injection e with _ _ e3; omega
    · rw [ev] at e; injection e with _ _ e3; unfold maxLen at h4; omega
  subst ev
  obtain ⟨ob, hob⟩ : ∃ ob, (Value.slice A n cc).ownBlock = ob := ⟨_, rfl⟩
  rw [hob]
  have HOb := Lib.hid hob
  clear h hob
  go_enter Tryd.func31, Tryd.ntmps31
  go_wp2_with (at_builtin; refine wpList_push eStr rfl (.tmp 23) (.tmp 24) rfl B (.slice A n cc) n xs rfl HO.out ad c (.string s) rfl hu rfl (by omega) (by omega) hB ?_; intro v5 w5 ho5 hg5 hk5; rw [HOb.out] at hg5 hk5)
  all_goals
    go_ret
    exact ⟨_, rfl, ho5, hg5, hk5⟩
def PutOk (B A : Nat) (V : AV) (S' : St) (w : World) (e : Ending) (w' : World) : Prop :=
  ∃ V', e = .returned (.int .i64 0) ∧ AM B A S' V' w' ∧ Fr (Fp A V) w w' ∧ (∀ b, Fp A V' b → Fp A V b ∨ w.heap.size ≤ b) ∧ V'.n ≤ V.n + 20000
def Arc.St.add (S : Arc.St) (n s : ByteArray) : St := ⟨(S.p.store (parts s)).1, S.nm ++ [(n, ⟨(S.p.store (parts s)).2, s.size⟩)]⟩
theorem cuts_length_le (s : ByteArray) : (cuts s).length ≤ s.size := by
  have key : ∀ k (s : ByteArray), s.size ≤ k → (cuts s).length ≤ s.size := by
    intro k
    induction k with
    | zero => intro s h; rw [cuts_nil (by omega)]; simp
    | succ k ih =>
      intro s h
      by_cases h0 : s.size = 0
      · rw [cuts_nil h0]; simp
      · rw [cuts_cons (by omega), List.length_cons]
        have hp := cutN_pos (l := s.data.toList) (by rw [Array.length_toList, ByteArray.size_data]; omega)
        have := ih (s.extract (cutN s.data.toList) s.size) (by rw [size_rest]; omega)
        rw [size_rest] at this; omega
  exact key _ s (Nat.le_refl _)
set_option maxRecDepth 100000 in
set_option maxHeartbeats 8000000 in
theorem put_new {B A : Nat} {S : St} {V : AV} (name s : ByteArray) (w : World) (h : AM B A S V w) (hT : Tab w) (hB : 1 ≤ B) (hg : Good name) (hs : s.size ≤ 16384) (hn : V.n ≤ 900000) (hl : ∀ j, j < S.order.length → less (S.order.getD j ByteArray.empty) name = true) (hlen : S.order.length < 64) :
    Calls Tryd.prog 18 #[.pointer (some ⟨A, 0, none⟩), .string name, .string s] w (PutOk B A V (Arc.St.add S name s) w) := by
  have HP : Hid (∀ e w', PutOk B A V (Arc.St.add S name s) w e w' = ∃ V', e = .returned (.int .i64 0) ∧ AM B A (Arc.St.add S name s) V' w' ∧ Fr (Fp A V) w w' ∧ (∀ b, Fp A V' b → Fp A V b ∨ w.heap.size ≤ b) ∧ V'.n ≤ V.n + 20000) := fun _ _ => rfl
  have HA := Lib.hid h
  have HT := Lib.hid hT
  have HL := Lib.hid hl
  have HNm : Hid (name ∉ S.order) := fun hin => by
    obtain ⟨q, hq, e⟩ := List.getElem_of_mem hin
    have := hl q hq
    rw [List.getD_eq_getElem?_getD, List.getElem?_eq_getElem hq] at this
    simp only [Option.getD_some] at this
    rw [e, less_irrefl] at this; cases this
  have HC := Lib.hid (cuts_any s w hs)
  have HG := Lib.hid hg
  have hll := cuts_length_le s
  generalize PutOk B A V (Arc.St.add S name s) w = Post at *
  obtain ⟨hg1, hg2, _⟩ := hg
  clear h hT hl
  go_enter Tryd.func18, Tryd.ntmps18
  go_wp2_with fail
  refine HC.out.mono ?_; rintro e w1 ⟨vl, rfl, ho1, hb1⟩
  have A1 := Lib.hid (HA.out.later hb1)
  have O1 := Lib.hid ho1
  have B1 := Lib.hid hb1
  obtain ⟨Al, cl, rfl⟩ := own_form ho1
  clear ho1 hb1 HC
  go_wp2_with fail
  refine (plain_any name _ HG.out).mono ?_; rintro e w' ⟨rfl, rfl⟩
  obtain ⟨Ao, co, eo⟩ := own_form A1.out.oo
  have HSr := Lib.hid (search_any S.order name A1.out.oo (by omega) S.order.length (Nat.le_refl _) HL.out (fun j a b => by omega))
  rw [decide_eq_false (by omega : ¬ (S.order.length < S.order.length ∧ S.order.getD S.order.length ByteArray.empty = name)), eo] at HSr
  have ca2 : w1.cell? ⟨A, 2, none⟩ = some (.slice Ao S.order.length co) := by rw [← eo]; exact A1.out.ba.cell 2
  have HEo := Lib.hid eo
  clear eo
  generalize hno : S.order.length = no at *
  have HNo := Lib.hid hno
  clear hno
  go_wp2_with fail
  refine HSr.out.mono ?_; rintro e w' ⟨rfl, q, rfl⟩
  have A2 := Lib.hid (A1.out.later (below_drewN (Below.refl _ w1) q))
  have O2 : Hid (World.ownsRow _ _ _ _ _ _ _) := Lib.hid (own_below O1.out (below_drewN (Below.refl _ w1) q))
  have B2 := Lib.hid (B1.out.trans ((below_drewN (Below.refl _ w1) q).mono B1.out.size))
  have ca3 : (w1.drewN q).cell? ⟨A, 2, none⟩ = some (.slice Ao no co) := ca2
  clear ca2 HSr
  generalize w1.drewN q = w2 at *
  have hno64 : ((no : Int) == 64) = false := by simp; omega
  go_wp2_with fail
  have hSs := Lib.hid hs
  have PM0 : Hid (PuM B A V w w2.heap.size (.slice Al (cuts s).length cl) (cuts s) s.size S V (.slice none 0 0) (.slice none 0 0) [] (w2.alloc (Obj.cells #[.slice none 0 0, .slice none 0 0, .int .i64 (s.size : Int)] 62))) := by
    have hbe := B2.out.alloc B2.out.size (Obj.cells #[.slice none 0 0, .slice none 0 0, .int .i64 (s.size : Int)] 62)
    have hal := (Below.refl w2.heap.size w2).alloc (Nat.le_refl _) (Obj.cells #[.slice none 0 0, .slice none 0 0, .int .i64 (s.size : Int)] 62)
    have hlt := HA.out.ba.lt
    exact ⟨A2.out.later hal, .of_below hbe, fun b e => .inl e, Blk.new w2 _ _, World.ownsRow_nil _ _ _ _, World.ownsRow_nil _ _ _ _, own_below O2.out hal, fun b hb => (own_lt O2.out b hb).2, B2.out.size, by have := B2.out.size; omega, tab_keep (ok := fun _ => False) HT.out (.of_below hbe) id (by omega), hB, HA.out.ent_lt⟩
  generalize w2.alloc (Obj.cells #[.slice none 0 0, .slice none 0 0, .int .i64 (s.size : Int)] 62) = wB at *
  have HPa : Hid (∀ j, j < (cuts s).length → 1 ≤ (cuts s).getD j 0 ∧ (cuts s).getD j 0 ≤ (rest (cuts s) s j).size ∧ (cuts s).getD j 0 ≤ 256 ∧ rest (cuts s) s (j + 1) = (rest (cuts s) s j).extract ((cuts s).getD j 0) (rest (cuts s) s j).size ∧ (parts s).take (j + 1) = (parts s).take j ++ [(rest (cuts s) s j).extract 0 ((cuts s).getD j 0)]) := fun j hj => by
    obtain ⟨a, b, c, _⟩ := cuts_get hj
    refine ⟨a, b, c, rest_succ _ _ _ hj, ?_⟩
    rw [List.take_add_one, show (parts s)[j]? = _ from split_get (cuts s) s j hj]; rfl
  have HRs : Hid (∀ j, (rest (cuts s) s j).size ≤ 16384) := fun j => by
    have key : ∀ (l : List Nat) (s : ByteArray) j, (rest l s j).size ≤ s.size := by
      intro l
      induction l with
      | nil => intro s j; cases j <;> exact Nat.le_refl _
      | cons a r ih =>
        intro s j
        cases j with
        | zero => exact Nat.le_refl _
        | succ j => exact Nat.le_trans (ih _ j) (by rw [ByteArray.size_extract]; omega)
    exact Nat.le_trans (key _ s j) hSs.out
  have HRE : Hid ((rest (cuts s) s (cuts s).length).size = 0) := rest_end s
  have HR0 : Hid (rest (cuts s) s 0 = s) := by cases cuts s <;> rfl
  have HOk := Lib.hid HA.out.ok
  have HPl : Hid ((parts s).length = (cuts s).length) := split_length _ _
  have hE9 : w.heap.size ≤ w2.heap.size := B2.out.size
  generalize hm : (cuts s).length = m at *
  have HM := Lib.hid hm
  clear hm A2 A1 O1 B1 HL HG
  generalize hE : w2.heap.size = E at *
  clear hE
  obtain ⟨hm9, hs9⟩ : m ≤ 16384 ∧ s.size ≤ 16384 := by omega
  go_loopw [2, 48] (fun v2 v48 wr => ∃ (j : Nat) (V1 : AV) (vk va : Value), v48 = .int .i64 (j : Int) ∧ j ≤ m ∧ v2 = .string (rest (cuts s) s j) ∧ PuM B A V w E (.slice Al m cl) (cuts s) s.size ⟨(S.p.store ((parts s).take j)).1, S.nm⟩ V1 vk va (S.p.store ((parts s).take j)).2 wr ∧ V1.n ≤ V.n + j) (fun _ v48 _ => m - (intOf v48).toNat)
  case atStart => exact ⟨0, V, _, _, rfl, by omega, by rw [HR0.out], PM0.out, by omega⟩
  case round =>
    obtain ⟨j, V1, vk, va, rfl, hj, rfl, pm, hn1⟩ := hrel
    by_cases hlt : j < m
    · obtain ⟨g1, g2, g3, g4, g5⟩ := HPa.out j hlt
      have hrs := HRs.out j
      have PM := Lib.hid pm
      have hlt9 : (cuts s).length = m := HM.out
      obtain ⟨gl, capl, el, _, hgl, _, _, hcl⟩ := own_cells (n := m) (by have := pm.ol; rw [hlt9] at this; exact this) (by omega)
      injection el with el1 _ el3
      subst el1
      subst el3
      have cj := hcl j (.int .i64 ((cuts s).getD j 0 : Nat)) (by
        unfold nats; rw [List.getElem?_map, List.getElem?_eq_getElem (by omega), List.getD_eq_getElem?_getD, List.getElem?_eq_getElem (by omega)]; rfl)
      have hks : (S.p.store ((parts s).take j)).2.length = j := by rw [Pcs.store_length, List.length_take, HPl.out]; omega
      have HSn : Hid (S.p.store ((parts s).take (j + 1)) = (((S.p.store ((parts s).take j)).1.keep ((rest (cuts s) s j).extract 0 ((cuts s).getD j 0))).1, (S.p.store ((parts s).take j)).2 ++ [(key ((rest (cuts s) s j).extract 0 ((cuts s).getD j 0)), ((S.p.store ((parts s).take j)).1.keep ((rest (cuts s) s j).extract 0 ((cuts s).getD j 0))).2)])) := by rw [g5]; exact Pcs.store_snoc _ _ _
      have G4 := Lib.hid g4
      have HKS := Lib.hid hks
      clear g4 g5 pm hks hcl
      generalize rest (cuts s) s j = r at *
      generalize (cuts s).getD j 0 = c at *
      generalize S.p.store ((parts s).take j) = st at *
      obtain ⟨pj, ks⟩ := st
      dsimp only at PM HSn HKS
      have HKp : Hid (∀ wx, wr = wx → Calls Tryd.prog 26 #[.pointer (some ⟨A, 0, none⟩), .string (r.extract 0 c)] wx (KeepOk B A ⟨pj, S.nm⟩ V1 (r.extract 0 c) wx)) := fun wx e => by
        subst e
        exact keep_any (r.extract 0 c) wr PM.out.am PM.out.tb (by rw [ByteArray.size_extract]; omega) (by omega)
      go_wp2_with fail
      refine (HKp.out _ rfl).mono ?_; rintro e w3 ⟨V2, rfl, am3, fr3, fn3, n3, ev3⟩
      have pm3 := PM.out.kept am3 fr3 fn3 rfl ev3.1
      have PM3 := Lib.hid pm3
      clear am3 fr3 fn3 pm3
      clear hlt9 ev3
      generalize key (r.extract 0 c) = kk at *
      dsimp only at PM3 HSn
      generalize hkp : pj.keep (r.extract 0 c) = kp at *
      clear hkp
      obtain ⟨pk, ki⟩ := kp
      dsimp only at PM3 HSn
      have hks2 : ks.length = j := HKS.out
      have HK0 : Hid (Value.oneCell' (.int .u32 (kk.toNat : Int)) = true) := rfl
      have h0 := Lib.hid (hks2 ▸ PM3.out.e0)
      have hE1 : E + 1 ≤ w3.heap.size := PM3.out.be.lt
      have hj9 : j ≤ 1000000 := by omega
      have nvk : Hid (∀ b, w3.heap.size ≤ b → vk.ownBlock ≠ some b) := fun b hb e => by have := (own_lt PM3.out.ok b e).2; omega
      have nva : Hid (∀ b, w3.heap.size ≤ b → va.ownBlock ≠ some b) := fun b hb e => by have := (own_lt PM3.out.oa b e).2; omega
      have HKS2 := Lib.hid hks2
      clear hks2
      go_upto_region 16 with (fail)
      refine wp_region_tail (fun w' => w'.cell? ⟨E, 0, none⟩ = some vk ∧ w'.cell? ⟨E, 1, none⟩ = some va) 11 (by kernel_rfl) (by kernel_rfl) (PM3.out.s0 h0.out) (fun hHeld => ?_)
      refine wpAnyD_take 0 (v := ?_) rfl (by kernel_rfl) (by kernel_rfl) (by kernel_rfl) (fun _ _ _ h => h) hHeld (Or.inl ⟨by rfl, ?_⟩) ?_
      rotate_left
      · intro w' hw'; obtain ⟨hw1, hw2⟩ := hw'; go_simp; try with_reducible rfl
      try simp only [Act.put, List.setIfInBounds_toArray, List.set_cons_zero, List.set_cons_succ]
      refine wpAnyD_take 1 (v := ?_) rfl (by kernel_rfl) (by kernel_rfl) (by kernel_rfl) (fun _ _ _ h => h) hHeld (Or.inl ⟨by rfl, ?_⟩) ?_
      rotate_left
      · intro w' hw'; obtain ⟨hw1, hw2⟩ := hw'; go_simp; try with_reducible rfl
      try simp only [Act.put, List.setIfInBounds_toArray, List.set_cons_zero, List.set_cons_succ]
      refine wpAnyD_take 2 (v := ?_) rfl (by kernel_rfl) (by kernel_rfl) (by kernel_rfl) (fun _ _ _ h => h) hHeld (Or.inl ⟨by rfl, ?_⟩) ?_
      rotate_left
      · intro w' hw'; obtain ⟨hw1, hw2⟩ := hw'; go_simp; try with_reducible rfl
      try simp only [Act.put, List.setIfInBounds_toArray, List.set_cons_zero, List.set_cons_succ]
      refine wpAnyD_take 5 (v := ?_) rfl (by kernel_rfl) (by kernel_rfl) (by kernel_rfl) (fun _ _ _ h => h) hHeld (Or.inl ⟨by rfl, ?_⟩) ?_
      rotate_left
      · intro w' hw'; obtain ⟨hw1, hw2⟩ := hw'; go_simp; try with_reducible rfl
      try simp only [Act.put, List.setIfInBounds_toArray, List.set_cons_zero, List.set_cons_succ]
      refine wpAnyD_take 6 (v := ?_) rfl (by kernel_rfl) (by kernel_rfl) (by kernel_rfl) (fun _ _ _ h => h) hHeld (Or.inl ⟨by rfl, ?_⟩) ?_
      rotate_left
      · intro w' hw'; obtain ⟨hw1, hw2⟩ := hw'; go_simp; try with_reducible rfl
      try simp only [Act.put, List.setIfInBounds_toArray, List.set_cons_zero, List.set_cons_succ]
      refine wpAnyD_take 7 (v := ?_) rfl (by kernel_rfl) (by kernel_rfl) (by kernel_rfl) (fun _ _ _ h => h) hHeld (Or.inl ⟨by rfl, ?_⟩) ?_
      rotate_left
      · intro w' hw'; obtain ⟨hw1, hw2⟩ := hw'; go_simp; try with_reducible rfl
      try simp only [Act.put, List.setIfInBounds_toArray, List.set_cons_zero, List.set_cons_succ]
      refine wpAnyD_ready [3, 8] (by kernel_rfl) ?_
      refine AllReadyD.cons rfl (fun K hK => ?_) ?_
      · go_simp
        refine hK.out _ _ (PM3.out.s0 (h0.out.alloc _)) (fun hHeld => ?_)
        clear hK K
        try simp only [Act.put, List.setIfInBounds_toArray, List.set_cons_zero, List.set_cons_succ]
        refine wpAnyD_ready [4, 8] (by kernel_rfl) ?_
        refine AllReadyD.cons rfl (fun K hK => ?_) ?_
        · refine step_K0 (h0.out.alloc _) (by rfl) (.tmp 61) (.tmp 63) (by rfl) (by rfl) ⟨w3.heap.size, 0, none⟩ 1 (by rfl) (new_at0 _ _ _) HK0.out hj9 (Nat.le_trans hE1 (h0.out.alloc _).fr.size) ?_
          intro g1 c1 W1 e1 hc1 hs1
          refine hK.out _ _ (PM3.out.sK e1) (fun hHeld => ?_)
          clear hK K
          try simp only [Act.put, List.setIfInBounds_toArray, List.set_cons_zero, List.set_cons_succ]
          refine wpAnyD_take 10 (v := ?_) rfl (by kernel_rfl) (by kernel_rfl) (by kernel_rfl) (fun _ _ _ h => h) hHeld (Or.inl ⟨by rfl, ?_⟩) ?_
          rotate_left
          · intro w' hw'; obtain ⟨hw1, hw2⟩ := hw'; go_simp; try with_reducible rfl
          try simp only [Act.put, List.setIfInBounds_toArray, List.set_cons_zero, List.set_cons_succ]
          refine wpAnyD_ready [8] (by kernel_rfl) ?_
          refine AllReadyD.cons rfl (fun K hK => ?_) ?_
          · go_simp
            refine hK.out _ _ (PM3.out.sK (e1.alloc _)) (fun hHeld => ?_)
            clear hK K
            try simp only [Act.put, List.setIfInBounds_toArray, List.set_cons_zero, List.set_cons_succ]
            refine wpAnyD_ready [9] (by kernel_rfl) ?_
            refine AllReadyD.cons rfl (fun K hK => ?_) ?_
            · refine step_A1 (e1.alloc _) (by rfl) (.tmp 66) (.tmp 68) (by rfl) (by rfl) ⟨W1.heap.size, 0, none⟩ 1 (by rfl) (new_one _ _ _) rfl hj9 (Nat.le_trans hE1 (e1.alloc _).fr.size) ?_
              intro g2 c2 W2 e2
              refine hK.out _ _ (PM3.out.s2 e2) (fun hHeld => ?_)
              clear hK K
              try simp only [Act.put, List.setIfInBounds_toArray, List.set_cons_zero, List.set_cons_succ]
              refine wpAnyD_done (by kernel_rfl) ?_
              simp only [List.drop_succ_cons, List.drop_zero]
              have bx := PM3.out.box e2.fr
              obtain ⟨d2, d3, _⟩ := three_cells bx
              have f2 := bx.frozen 0
              have f3 := bx.frozen 1
              have l2 := bx.lt
              have S2 := Lib.hid (PM3.out.stored (k := kk) (i := ki) (by rw [HKS2.out]; exact e2))
              clear bx e2 hHeld
              go_wp2
              go_roundw
              case rel => exact ⟨j + 1, V2, _, _, by go_num, by omega, by rw [G4.out], by rw [HSn.out]; exact S2.out, by omega⟩
              case measure => simp [intOf]; omega
            exact AllReadyD.nil
          exact AllReadyD.nil
        refine AllReadyD.cons rfl (fun K hK => ?_) ?_
        · go_simp
          refine hK.out _ _ (PM3.out.s0 ((h0.out.alloc _).alloc _)) (fun hHeld => ?_)
          clear hK K
          try simp only [Act.put, List.setIfInBounds_toArray, List.set_cons_zero, List.set_cons_succ]
          refine wpAnyD_ready [4] (by kernel_rfl) ?_
          refine AllReadyD.cons rfl (fun K hK => ?_) ?_
          · refine step_K0 ((h0.out.alloc _).alloc _) (by rfl) (.tmp 61) (.tmp 63) (by rfl) (by rfl) ⟨w3.heap.size, 0, none⟩ 1 (by rfl) (new_at01 _ _ _ _) HK0.out hj9 (Nat.le_trans hE1 ((h0.out.alloc _).alloc _).fr.size) ?_
            intro g1 c1 W1 e1 hc1 hs1
            refine hK.out _ _ (PM3.out.sK e1) (fun hHeld => ?_)
            clear hK K
            try simp only [Act.put, List.setIfInBounds_toArray, List.set_cons_zero, List.set_cons_succ]
            refine wpAnyD_take 10 (v := ?_) rfl (by kernel_rfl) (by kernel_rfl) (by kernel_rfl) (fun _ _ _ h => h) hHeld (Or.inl ⟨by rfl, ?_⟩) ?_
            rotate_left
            · intro w' hw'; obtain ⟨hw1, hw2⟩ := hw'; go_simp; try with_reducible rfl
            try simp only [Act.put, List.setIfInBounds_toArray, List.set_cons_zero, List.set_cons_succ]
            refine wpAnyD_ready [9] (by kernel_rfl) ?_
            refine AllReadyD.cons rfl (fun K hK => ?_) ?_
            · refine step_A1 e1 (by rfl) (.tmp 66) (.tmp 68) (by rfl) (by rfl) ⟨w3.heap.size + 1, 0, none⟩ 1 (by rfl) ((hc1 _ (by simp <;> omega) (nvk.out _ (by simp))).trans (new_at1 _ _ _ _)) rfl hj9 (Nat.le_trans hE1 e1.fr.size) ?_
              intro g2 c2 W2 e2
              refine hK.out _ _ (PM3.out.s2 e2) (fun hHeld => ?_)
              clear hK K
              try simp only [Act.put, List.setIfInBounds_toArray, List.set_cons_zero, List.set_cons_succ]
              refine wpAnyD_done (by kernel_rfl) ?_
              simp only [List.drop_succ_cons, List.drop_zero]
              have bx := PM3.out.box e2.fr
              obtain ⟨d2, d3, _⟩ := three_cells bx
              have f2 := bx.frozen 0
              have f3 := bx.frozen 1
              have l2 := bx.lt
              have S2 := Lib.hid (PM3.out.stored (k := kk) (i := ki) (by rw [HKS2.out]; exact e2))
              clear bx e2 hHeld
              go_wp2
              go_roundw
              case rel => exact ⟨j + 1, V2, _, _, by go_num, by omega, by rw [G4.out], by rw [HSn.out]; exact S2.out, by omega⟩
              case measure => simp [intOf]; omega
            exact AllReadyD.nil
          exact AllReadyD.nil
        exact AllReadyD.nil
      refine AllReadyD.cons rfl (fun K hK => ?_) ?_
      · go_simp
        refine hK.out _ _ (PM3.out.s0 (h0.out.alloc _)) (fun hHeld => ?_)
        clear hK K
        try simp only [Act.put, List.setIfInBounds_toArray, List.set_cons_zero, List.set_cons_succ]
        refine wpAnyD_ready [3] (by kernel_rfl) ?_
        refine AllReadyD.cons rfl (fun K hK => ?_) ?_
        · go_simp
          refine hK.out _ _ (PM3.out.s0 ((h0.out.alloc _).alloc _)) (fun hHeld => ?_)
          clear hK K
          try simp only [Act.put, List.setIfInBounds_toArray, List.set_cons_zero, List.set_cons_succ]
          refine wpAnyD_ready [4] (by kernel_rfl) ?_
          refine AllReadyD.cons rfl (fun K hK => ?_) ?_
          · refine step_K0 ((h0.out.alloc _).alloc _) (by rfl) (.tmp 61) (.tmp 63) (by rfl) (by rfl) ⟨w3.heap.size + 1, 0, none⟩ 1 (by rfl) (new_at1 _ _ _ _) HK0.out hj9 (Nat.le_trans hE1 ((h0.out.alloc _).alloc _).fr.size) ?_
            intro g1 c1 W1 e1 hc1 hs1
            refine hK.out _ _ (PM3.out.sK e1) (fun hHeld => ?_)
            clear hK K
            try simp only [Act.put, List.setIfInBounds_toArray, List.set_cons_zero, List.set_cons_succ]
            refine wpAnyD_take 10 (v := ?_) rfl (by kernel_rfl) (by kernel_rfl) (by kernel_rfl) (fun _ _ _ h => h) hHeld (Or.inl ⟨by rfl, ?_⟩) ?_
            rotate_left
            · intro w' hw'; obtain ⟨hw1, hw2⟩ := hw'; go_simp; try with_reducible rfl
            try simp only [Act.put, List.setIfInBounds_toArray, List.set_cons_zero, List.set_cons_succ]
            refine wpAnyD_ready [9] (by kernel_rfl) ?_
            refine AllReadyD.cons rfl (fun K hK => ?_) ?_
            · refine step_A1 e1 (by rfl) (.tmp 66) (.tmp 68) (by rfl) (by rfl) ⟨w3.heap.size, 0, none⟩ 1 (by rfl) ((hc1 _ (by simp <;> omega) (nvk.out _ (by simp))).trans (new_at01 _ _ _ _)) rfl hj9 (Nat.le_trans hE1 e1.fr.size) ?_
              intro g2 c2 W2 e2
              refine hK.out _ _ (PM3.out.s2 e2) (fun hHeld => ?_)
              clear hK K
              try simp only [Act.put, List.setIfInBounds_toArray, List.set_cons_zero, List.set_cons_succ]
              refine wpAnyD_done (by kernel_rfl) ?_
              simp only [List.drop_succ_cons, List.drop_zero]
              have bx := PM3.out.box e2.fr
              obtain ⟨d2, d3, _⟩ := three_cells bx
              have f2 := bx.frozen 0
              have f3 := bx.frozen 1
              have l2 := bx.lt
              have S2 := Lib.hid (PM3.out.stored (k := kk) (i := ki) (by rw [HKS2.out]; exact e2))
              clear bx e2 hHeld
              go_wp2
              go_roundw
              case rel => exact ⟨j + 1, V2, _, _, by go_num, by omega, by rw [G4.out], by rw [HSn.out]; exact S2.out, by omega⟩
              case measure => simp [intOf]; omega
            exact AllReadyD.nil
          exact AllReadyD.nil
        exact AllReadyD.nil
      exact AllReadyD.nil
    · obtain rfl : j = m := by omega
      have hemp := is_empty HRE.out
      have HPt : Hid ((parts s).take j = parts s) := by rw [← HPl.out, List.take_length]; exact rfl
      rw [HPt.out] at pm
      have HAd : Hid (Arc.St.add S name s = ⟨(S.p.store (parts s)).1, S.nm ++ [(name, ⟨(S.p.store (parts s)).2, s.size⟩)]⟩) := rfl
      generalize S.p.store (parts s) = st at *
      obtain ⟨pk, ks⟩ := st
      dsimp only at pm
      have PM := Lib.hid (pm.later (Below.refl _ wr).drew)
      clear pm
      generalize rest (cuts s) s j = r at *
      have HFin : Hid (∀ (w6 w7 : World) (vo' : Value) (o : Obj), MapV w6 Tryd.prog 9 V1.N (V1.n + 1) (fun l => if l.sameKey (kS name) then some (entV vk va s.size) else FA S.order kS V1.ev l) → wr.drew.grownBy w6 (some V1.N) → w7.ownsRow B 9 1 vo' (no + 1) (strs S.order ++ [.string name]) → (w6.alloc o).grownBy w7 V1.vo.ownBlock → (vo'.ownBlock = V1.vo.ownBlock ∨ vo'.ownBlock = some (w6.alloc o).heap.size) → Post (.returned (.int .i64 0)) (w7.setCell ⟨A, 2, none⟩ vo')) := fun w6 w7 vo' o m6 g6 o7 g7 k7 => by
        have hname := HNm.out
        have hE1 : B ≤ E + 1 := by have := PM.out.am.lo.1; have := HA.out.ba.lt; have := HA.out.lo.1; omega
        have := PM.out.am.addName name hname (own_base PM.out.ok hE1) (own_base PM.out.oa hE1) (sz := s.size) m6 g6 ((Below.refl w6.heap.size w6).alloc (Nat.le_refl _) o) (by rw [show (⟨pk, S.nm⟩ : St).order = S.order from rfl, HNo.out]; exact o7) g7 k7
        obtain ⟨q1, q2, q3⟩ := this
        rw [HP.out, HAd.out]
        refine ⟨_, rfl, q1, PM.out.fr.trans q2 fun b hb e => ?_, fun b e => ?_, ?_⟩
        · rcases PM.out.fn b e with e2 | e2
          · exact e2
          · omega
        · rcases q3 b e with e2 | e2
          · exact PM.out.fn b e2
          · right; have := PM.out.fr.size; omega
        · show V1.n + 1 ≤ V.n + 20000; omega
      obtain ⟨w6, r6, m6, g6⟩ := PM.out.am.mn.put lawS Tryd.underlying56 (by unfold maxLen; omega) (keyS name (by unfold maxLen; omega)) (entV vk va s.size)
      have M6 := Lib.hid m6
      have G6 := Lib.hid g6
      have hNA := PM.out.am.ne_A.2
      have bA := PM.out.am.ba
      have bA6 := (Fr.of_grown (ok := fun b => b = V1.N) g6 fun b e => (Option.some.inj e).symm).Blk bA fun e => hNA e.symm
      have o6 : Hid (w6.ownsRow B 9 1 V1.vo no (strs S.order)) := Lib.hid (by rw [← HNo.out]; exact (Fr.of_grown (ok := fun b => b = V1.N) g6 fun b e => (Option.some.inj e).symm).own PM.out.am.oo fun b hb e => (PM.out.am.row_ne PM.out.am.oo (by decide) hb).2.2 e)
      have cA1 := bA.cell 1
      have cA2 := bA6.cell 2
      have lA6 := bA6.lt
      obtain ⟨k0, k1, k2⟩ := three_cells PM.out.be
      have HEnt : Hid (entV vk va s.size = .agg #[vk, va, .int .i64 (s.size : Int)]) := rfl
      have hB6 : B ≤ w6.heap.size := by have := PM.out.am.lo.1; omega
      simp only [List.getElem?_toArray, List.getElem?_cons_zero, List.getElem?_cons_succ] at cA1 cA2
      rw [HEnt.out] at r6
      have bA6 := Lib.hid bA6
      clear m6 g6 bA hNA
      go_upto_region 19 with (fail)
      go_still_tail 6, (by kernel_rfl)
      go_wp2_with fail
      refine (insert_end name ⟨w6.heap.size, 0, none⟩ _ (o6.out.alloc _) (new_one _ _ _) (by omega) (by simp; omega)).mono ?_; rintro e w7 ⟨vo', rfl, o7, g7, k7⟩
      obtain ⟨Ai, ci, rfl⟩ := own_form o7
      have bA7 := (bA6.out.alloc (Obj.cells #[.string name] 9)).grown g7 fun e => (PM.out.am.row_ne PM.out.am.oo (by decide) e.symm).1 rfl
      have cA7 := bA7.cell 2
      have fA7 := bA7.frozen 2
      have lA7 := bA7.lt
      simp only [List.getElem?_toArray, List.getElem?_cons_zero, List.getElem?_cons_succ] at cA7
      have HE := Lib.hid (HFin.out w6 w7 _ _ M6.out G6.out o7 g7 k7)
      clear bA7 o7 g7 k7
      go_wp2
      exact HE.out
end Go.Proofs.YtpfkmjckjomeeaaDoor
