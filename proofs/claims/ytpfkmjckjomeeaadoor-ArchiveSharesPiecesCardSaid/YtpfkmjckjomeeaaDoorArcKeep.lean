/- The walk of keep. -/
import Derived.Test.YtpfkmjckjomeeaaDoorArcKeepM
namespace Go.Proofs.YtpfkmjckjomeeaaDoor
open Go.RowKit Arc
open Go.Maps (Keyed)
theorem idx_hit (l : List ByteArray) (x : ByteArray) (h : x ∈ l) : Lib.idxOfS l x = (l.idxOf x : Int) := by
  have hl := List.idxOf_lt_length_iff.2 h
  have := Lib.idxOfS_hit l l.length (l.idxOf x) x hl (Nat.le_refl _) (by rw [List.getD_eq_getElem?_getD, List.getElem?_eq_getElem hl, List.getElem_idxOf]; rfl) fun j hj => by
    rw [List.getD_eq_getElem?_getD, List.getElem?_eq_getElem (by omega)]
    have := List.not_of_lt_findIdx (p := (· == x)) hj
    simpa using this
  rw [List.take_length] at this; exact this
theorem idx_miss (l : List ByteArray) (x : ByteArray) (h : x ∉ l) : Lib.idxOfS l x = -1 := by
  have := Lib.idxOfS_miss l l.length x fun j hj e => h (by
    rw [List.getD_eq_getElem?_getD, List.getElem?_eq_getElem hj] at e
    exact e ▸ List.getElem_mem hj)
  rw [List.take_length] at this; exact this
/-- What a look-up of pieces gives. -/
theorem AM.lookP {B A : Nat} {S : St} {V : AV} {w : World} (h : AM B A S V w) (k : BitVec 32) : (Instr.lookup 55 (.map (some V.P)) (.int .u32 (k.toNat : Int)) false).run Tryd.prog w = .ok (V.vf k) w := by
  have := (h.mp.look lawU Tryd.underlying55 (zeroP w) (keyU k)).1
  rw [this]
  by_cases hk : k ∈ S.p.L
  · rw [FA_get kU_key kU_inj hk]; rfl
  · rw [FA_none kU_key kU_inj hk, h.vn k hk]; rfl
def KeepOk (B A : Nat) (S : St) (V : AV) (s : ByteArray) (w : World) (e : Ending) (w' : World) : Prop :=
  ∃ V', e = .returned (.tuple #[.int .u32 ((key s).toNat : Int), .int .i64 ((S.p.keep s).2 : Int)]) ∧ AM B A ⟨(S.p.keep s).1, S.nm⟩ V' w' ∧ Fr (Fp A V) w w' ∧ (∀ b, Fp A V' b → Fp A V b ∨ w.heap.size ≤ b) ∧ V'.n ≤ V.n + 1 ∧ (V'.ev = V.ev ∧ V'.vo = V.vo ∧ V'.P = V.P ∧ V'.N = V.N)
set_option maxRecDepth 100000 in
set_option maxHeartbeats 4000000 in
theorem keep_any {B A : Nat} {S : St} {V : AV} (s : ByteArray) (w : World) (h : AM B A S V w) (hT : Tab w) (hs : s.size ≤ 1000) (hn : V.n ≤ 1000000) :
    Calls Tryd.prog 26 #[.pointer (some ⟨A, 0, none⟩), .string s] w (KeepOk B A S V s w) := by
  have HP : Hid (∀ e w', KeepOk B A S V s w e w' = ∃ V', e = .returned (.tuple #[.int .u32 ((key s).toNat : Int), .int .i64 ((S.p.keep s).2 : Int)]) ∧ AM B A ⟨(S.p.keep s).1, S.nm⟩ V' w' ∧ Fr (Fp A V) w w' ∧ (∀ b, Fp A V' b → Fp A V b ∨ w.heap.size ≤ b) ∧ V'.n ≤ V.n + 1 ∧ (V'.ev = V.ev ∧ V'.vo = V.vo ∧ V'.P = V.P ∧ V'.N = V.N)) := fun _ _ => rfl
  have HS : Hid (∀ w', w = w' → Calls Tryd.prog 36 #[.string s] w' fun e w'' => e = .returned (.int .u32 ((key s).toNat : Int)) ∧ w' = w'') := fun w' e => by subst e; exact sum_any s w (by unfold maxLen; omega) hT
  have HA := Lib.hid h
  have hl := h.lookP (key s)
  have c0 := h.ba.cell 0
  simp only [List.getElem?_toArray, List.getElem?_cons_zero] at c0
  have HX := Lib.hid (index_any (S.p.f (key s)) s (h.of (key s)))
  have hcn := h.cn (key s)
  by_cases hin : s ∈ S.p.f (key s)
  · have hk : S.p.keep s = (S.p, (S.p.f (key s)).idxOf s) := by unfold Pcs.keep; rw [if_pos hin]
    rw [idx_hit _ _ hin] at HX
    rw [hk] at HP
    have HR : Hid (∀ w', w = w' → ∃ V', AM B A ⟨S.p, S.nm⟩ V' w' ∧ Fr (Fp A V) w w' ∧ (∀ b, Fp A V' b → Fp A V b ∨ w.heap.size ≤ b) ∧ V'.n ≤ V.n + 1 ∧ (V'.ev = V.ev ∧ V'.vo = V.vo ∧ V'.P = V.P ∧ V'.N = V.N)) := fun w' e => by subst e; exact ⟨V, HA.out, Fr.refl _ _, fun b e => .inl e, by omega, rfl, rfl, rfl, rfl⟩
    generalize KeepOk B A S V s w = Post at *
    generalize (S.p.f (key s)).idxOf s = i at *
    generalize (key s).toNat = kn at *
    generalize V.vf (key s) = vk at *
    clear hk hin h
    go_enter Tryd.func26, Tryd.ntmps26
    go_wp2_with (first | (go_at_call 36; refine (HS.out _ rfl).mono ?_; rintro e w' ⟨rfl, rfl⟩) | (go_at_call 37; refine HX.out.mono ?_; rintro e w' ⟨rfl, rfl⟩))
    rw [HP.out]
    obtain ⟨V', a, b, c, d⟩ := HR.out w rfl
    exact ⟨V', rfl, a, b, c, d⟩
  · have hk : S.p.keep s = (S.p.add s, (S.p.f (key s)).length) := by unfold Pcs.keep; rw [if_neg hin]
    rw [idx_miss _ _ hin] at HX
    rw [hk] at HP
    have HKp : Hid (∀ w', Below w.heap.size w w' → w'.cell? ⟨A, 0, none⟩ = some (.map (some V.P)) ∧ (Instr.lookup 55 (.map (some V.P)) (.int .u32 ((key s).toNat : Int)) false).run Tryd.prog w' = .ok (V.vf (key s)) w') := fun w' hb => ⟨(HA.out.later hb).ba.cell 0, (HA.out.later hb).lookP _⟩
    have HCl : Hid (∀ w', Below w.heap.size w w' → Calls Tryd.prog 38 #[.string s] w' fun e w'' => e = .returned (.string s) ∧ Below w.heap.size w w'') := fun w' hb => (clone_str s w' (by omega)).mono fun e w'' ⟨a, b⟩ => ⟨a, hb.trans (b.mono hb.size)⟩
    have HOw : Hid (∀ w', Below w.heap.size w w' → w'.ownsRow B 9 1 (V.vf (key s)) (S.p.f (key s)).length (strs (S.p.f (key s)))) := fun w' hb => own_below (HA.out.of _) hb
    have HEnd : Hid (∀ (w1 w5 : World) (v5 : Value), Below w.heap.size w w1 → w5.ownsRow B 9 1 v5 ((S.p.f (key s)).length + 1) (strs (S.p.f (key s)) ++ [.string s]) → w1.grownBy w5 (V.vf (key s)).ownBlock → (v5.ownBlock = (V.vf (key s)).ownBlock ∨ v5.ownBlock = some w1.heap.size) →
        ∃ w6, (Instr.mapUpdate 55 (.map (some V.P)) (.int .u32 ((key s).toNat : Int)) v5).run Tryd.prog w5 = .ok () w6 ∧ w5.cell? ⟨A, 0, none⟩ = some (.map (some V.P)) ∧ w6.cell? ⟨A, 0, none⟩ = some (.map (some V.P)) ∧ Hid (∃ V', AM B A ⟨S.p.add s, S.nm⟩ V' w6 ∧ Fr (Fp A V) w w6 ∧ (∀ b, Fp A V' b → Fp A V b ∨ w.heap.size ≤ b) ∧ V'.n ≤ V.n + 1 ∧ (V'.ev = V.ev ∧ V'.vo = V.vo ∧ V'.P = V.P ∧ V'.N = V.N))) := fun w1 w5 v5 hb ho hg hk5 => by
      have hm5 : MapV w5 Tryd.prog 63 V.P V.n (FA S.p.L kU V.vf) := (HA.out.mp.later hb).kept hg (fun e => (HA.out.row_ne (HA.out.of _) (by decide) e.symm).2.1 rfl)
      obtain ⟨w6, r1, r2, r3⟩ := hm5.put lawU Tryd.underlying55 (by unfold maxLen; omega) (keyU (key s)) v5
      obtain ⟨q1, q2, q3⟩ := HA.out.add s hin hb ho hg hk5 r2 r3
      have a5 := (HA.out.ba.below hb HA.out.ba.lt).grown hg fun e => (HA.out.row_ne (HA.out.of _) (by decide) e.symm).1 rfl
      exact ⟨w6, r1, a5.cell 0, q1.ba.cell 0, _, q1, q2, q3, by unfold AV.set; exact Nat.le_refl _, rfl, rfl, rfl, rfl⟩
    have hBw : B ≤ w.heap.size := Nat.le_trans HA.out.lo.1 (Nat.le_of_lt HA.out.ba.lt)
    generalize KeepOk B A S V s w = Post at *
    obtain ⟨Ak, ck, ek⟩ := own_form (HA.out.of (key s))
    generalize V.vf (key s) = vk at *
    generalize hnk : (S.p.f (key s)).length = nk at *
    generalize strs (S.p.f (key s)) = xs at *
    generalize S.p.add s = pa at *
    generalize (key s).toNat = kn at *
    clear hk hin h hnk
    subst ek
    go_enter Tryd.func26, Tryd.ntmps26
    go_wp2_with (first | (go_at_call 36; refine (HS.out _ rfl).mono ?_; rintro e w' ⟨rfl, rfl⟩) | (go_at_call 37; refine HX.out.mono ?_; rintro e w' ⟨rfl, rfl⟩))
    obtain ⟨k0, l0⟩ := HKp.out _ (Below.refl w.heap.size w).drew
    go_region_held3 (fun w' => w'.cell? ⟨A, 0, none⟩ = some (.map (some V.P)))
      (first | assumption | exact (HKp.out _ (Below.refl _ _).drew).1 | (have _tk := hb2; first | exact (HKp.out _ hb2).1 | exact (HKp.out _ (hb2.alloc hb2.size _)).1))
      (first
        | (go_at_call 38; refine (HCl.out _ (Below.refl _ _).drew).mono ?_; rintro e w2 ⟨rfl, hb2⟩; have l2 := (HKp.out _ hb2).2; have l3 := (HKp.out _ (hb2.alloc hb2.size (Obj.cells #[.string s] 9))).2)
        | (have _tk := hb2; refine step_push_form eStr (by rfl) (.tmp 37) (.tmp 40) (by rfl) B (.slice Ak nk ck) nk xs (by rfl) (HOw.out _ (hb2.alloc hb2.size _)) ⟨w2.heap.size, 0, none⟩ 1 (.string s) (by rfl) (new_one _ _ _) rfl (by omega) (by omega) (by have := hb2.size; simp; omega) ?_; intro g cap w5 ho5 hg5 hk5; obtain ⟨w6, hr6, c5, c6, hend⟩ := HEnd.out _ w5 _ (hb2.alloc hb2.size _) ho5 hg5 (by simpa [Value.ownBlock] using hk5)))
    all_goals
      go_wp2
      rw [HP.out]
      obtain ⟨V', a, b, c, d⟩ := hend.out
      exact ⟨V', rfl, a, b, c, d⟩
end Go.Proofs.YtpfkmjckjomeeaaDoor
