/- What a call of the parser leaves as it was. The walk of term. -/
import Derived.Test.YtonmpealebggoaaGreatDoorPrpNum
import Derived.Test.YtonmpealebggoaaGreatDoorPrpPlain
import Derived.Deep.DeepCutAuto
import Derived.Deep.CutBlock
import Derived.RegionTactic
import Derived.BigRegion
import Derived.RegionDies
import Derived.IntWalk
namespace Go.Proofs.YtonmpealebggoaaGreatDoor
open Go.RowKit Pr
/-- Nothing below R turns but the blocks of S. -/
structure FrS (R : Nat) (S : Nat → Prop) (w w' : World) : Prop where
  os : w'.os = w.os
  tape : w'.tape = w.tape
  output : w'.output = w.output
  size : w.heap.size ≤ w'.heap.size
  block : ∀ k, k < R → ¬ S k → w'.heap[k]? = w.heap[k]?
section
variable {R R' : Nat} {S S' : Nat → Prop} {a w w' c : World}
theorem FrS.refl (R : Nat) (S : Nat → Prop) (w : World) : FrS R S w w := ⟨rfl, rfl, rfl, Nat.le_refl _, fun _ _ _ => rfl⟩
theorem FrS.trans (h : FrS R S a w) (k : FrS R S w c) : FrS R S a c := ⟨k.os.trans h.os, k.tape.trans h.tape, k.output.trans h.output, Nat.le_trans h.size k.size, fun j hj hb => (k.block j hj hb).trans (h.block j hj hb)⟩
theorem FrS.weak (h : FrS R S a w) (hR : R' ≤ R) (hS : ∀ k, k < R' → S k → S' k) : FrS R' S' a w := ⟨h.os, h.tape, h.output, h.size, fun k hk hs => h.block k (by omega) fun e => hs (hS k hk e)⟩
theorem FrS.alloc (h : FrS R S a w) (hR : R ≤ w.heap.size) (o : Obj) : FrS R S a (w.alloc o) := ⟨h.os, h.tape, h.output, Nat.le_trans h.size (by simp), fun k hk hs => (Below.heap_alloc w o k (by omega)).trans (h.block k hk hs)⟩
theorem FrS.put (h : FrS R S a w) {p : Addr} (hp : R ≤ p.block ∨ S p.block) (u : Value) : FrS R S a (w.setCell p u) := by
  have h2 := (Below.refl 0 w).setCell (p := p) (Nat.zero_le _) u
  refine ⟨h2.os.trans h.os, h2.tape.trans h.tape, h2.output.trans h.output, Nat.le_trans h.size h2.size, fun k hk hs => ?_⟩
  rw [Below.heap_setCell w p u k fun e => ?_]
  · exact h.block k hk hs
  · rcases hp with hp | hp
    · omega
    · exact hs (e ▸ hp)
theorem FrS.grown {K : Nat} (h : FrS R S a w) (hg : w.grownBy w' (some K)) (hR : R ≤ w.heap.size) (hv : R ≤ K ∨ S K) : FrS R S a w' :=
  h.trans ⟨hg.os, hg.tape, hg.output, hg.size, fun k hk hs => hg.block k (by omega) fun e => by
    injection e with e
    subst e
    rcases hv with h1 | h1
    · omega
    · exact hs h1⟩
theorem FrS.to (h : FrS a.heap.size S a w) {K : Nat} (hS : ∀ k, S k → k = K) : a.grownBy w (some K) := ⟨h.os, h.tape, h.output, h.size, fun k hk hn => h.block k hk fun e => hn (by rw [hS k e])⟩
theorem FrS.blk {g : Nat} {t : TypeId} {cs : Array Value} (h : FrS R S w w') (hb : Blk w g t cs) (hg : g < R) (hs : ¬ S g) : Blk w' g t cs := (h.block g hg hs).trans hb
theorem FrS.below (h : FrS R S w w') {B : Nat} (hB : B ≤ R) (hS : ∀ k, S k → B ≤ k) : Below B w w' := ⟨h.os, h.tape, h.output, h.size, fun k hk => h.block k (by omega) fun e => by have := hS k e; omega⟩
theorem FrS.of_below {B : Nat} (h : Below B w w') (hR : R ≤ B) : FrS R S w w' := ⟨h.os, h.tape, h.output, h.size, fun k hk _ => h.block k (by omega)⟩
theorem FrS.drew (h : FrS R S w w') : FrS R S w w'.drew := ⟨h.os, h.tape, h.output, h.size, h.block⟩
theorem FrS.drewN (h : FrS R S w w') (n : Nat) : FrS R S w (w'.drewN n) := ⟨h.os, h.tape, h.output, h.size, h.block⟩
end
/-- A block and what lies in it, through a call on the parser. -/
theorem Blk.gr {w w' : World} {g K : Nat} {t : TypeId} {cs : Array Value} (h : Blk w g t cs) (hb : w.grownBy w' (some K)) (hg : g ≠ K) : Blk w' g t cs := h.grown hb fun e => hg (by injection e)
theorem PsM.keep {S : ByteArray} {K : Nat} {s : St} {w w' : World} (h : PsM S K s w) (hs : w.heap.size ≤ w'.heap.size) (hb : w'.heap[K]? = w.heap[K]?) : PsM S K s w' := by
  obtain ⟨a, hp, hr⟩ := h
  exact ⟨a, hp, hr.keep (Nat.lt_of_lt_of_le hr.lt hs) hb⟩
theorem PsM.drew {S : ByteArray} {K : Nat} {s : St} {w : World} (h : PsM S K s w) : PsM S K s w.drew := h.keep (Nat.le_refl _) rfl
theorem PsM.drewN {S : ByteArray} {K : Nat} {s : St} {w : World} (h : PsM S K s w) (n : Nat) : PsM S K s (w.drewN n) := h.keep (Nat.le_refl _) rfl
theorem PsM.alloc {S : ByteArray} {K : Nat} {s : St} {w : World} (h : PsM S K s w) (o : Obj) : PsM S K s (w.alloc o) := h.keep (by simp) (Below.heap_alloc w o K h.lt)
theorem PsM.far {S : ByteArray} {K : Nat} {s : St} {w : World} (h : PsM S K s w) {p : Addr} (hp : K ≠ p.block) (u : Value) : PsM S K s (w.setCell p u) := h.keep (by simp [World.setCell]) (Below.heap_setCell w p u K hp)
/-- The tables lie below the parser. -/
def TabK (K : Nat) (w : World) : Prop := ∀ W, Below K w W → Tabs W ∧ ErrT W
theorem TabK.below {K : Nat} {w w' : World} (h : TabK K w) (hb : Below K w w') : TabK K w' := fun _ hW => h _ (hb.trans hW)
theorem FrS.tab {K R : Nat} {S : Nat → Prop} {w w' : World} (h : FrS R S w w') (hR : K ≤ R) (hS : ∀ k, S k → K ≤ k) (ht : TabK K w) : TabK K w' := ht.below (h.below hR hS)
end Go.Proofs.YtonmpealebggoaaGreatDoor
namespace Go.Proofs.YtonmpealebggoaaGreatDoor
open Go.RowKit Pr
def TmPost (S : ByteArray) (K : Nat) (q : Option (Tm × St)) (w : World) (e : Ending) (w' : World) : Prop :=
  w.grownBy w' (some K) ∧ (∀ r, q = some r → e = .returned (.agg #[.int .i64 r.1.1, .string (Bs r.1.2)]) ∧ PsM S K r.2 w') ∧ (q = none → PanE S e)
theorem tm_put {w : World} {g : Nat} {t : TypeId} {a b : Value} (h : Blk w g t #[a, b]) (u : Value) : Blk (w.setCell ⟨g, 0, none⟩ u) g t #[u, b] := by
  have := Blk.put h 0 u
  simpa using this
theorem tm_put1 {w : World} {g : Nat} {t : TypeId} {a b : Value} (h : Blk w g t #[a, b]) (u : Value) : Blk (w.setCell ⟨g, 1, none⟩ u) g t #[a, u] := by
  have := Blk.put h 1 u
  simpa using this
theorem two_cells {w : World} {g : Nat} {t : TypeId} {a b : Value} (h : Blk w g t #[a, b]) : w.cell? ⟨g, 0, none⟩ = some a ∧ w.cell? ⟨g, 1, none⟩ = some b ∧ w.frozen? ⟨g, 0, none⟩ = false ∧ w.frozen? ⟨g, 1, none⟩ = false ∧ g < w.heap.size :=
  ⟨by simpa using Blk.cell h 0, by simpa using Blk.cell h 1, Blk.frozen h 0, Blk.frozen h 1, Blk.lt h⟩
theorem FrS.tm {K : Nat} {w : World} (o1 o2 : Obj) : FrS w.heap.size (fun k => k = K) w ((w.alloc o1).alloc o2) := ((FrS.refl _ _ _).alloc (Nat.le_refl _) _).alloc (by simp) _
set_option maxRecDepth 100000 in
set_option maxHeartbeats 4000000 in
theorem term_any (S : ByteArray) (K : Nat) (s : St) (sg : Int) (h1 : sg = 1 ∨ sg = -1) (w : World) (h : PsM S K s w) (hs : S.size ≤ 4096) (hT : TabK K w) :
    Calls Tryz.prog 70 #[.pointer (some ⟨K, 0, none⟩), .int .i64 sg] w (TmPost S K (pTerm sg s) w) := by
  have hl := h.lt
  have HF := Lib.hid (FrS.tm (K := K) (w := w) (.cells #[.int .i64 0, .string ⟨#[]⟩] 80) (.cells #[.int .i64 sg, .string ⟨#[]⟩] 80))
  have HR := Lib.hid (Blk.alloc (Blk.new w 80 #[.int .i64 0, .string ⟨#[]⟩]) (.cells #[.int .i64 sg, .string ⟨#[]⟩] 80))
  have hB := Blk.new (w.alloc (.cells #[.int .i64 0, .string ⟨#[]⟩] 80)) 80 #[.int .i64 sg, .string ⟨#[]⟩]
  rw [show (w.alloc (.cells #[.int .i64 0, .string ⟨#[]⟩] 80)).heap.size = w.heap.size + 1 by simp] at hB
  have HB := Lib.hid hB
  have HP := Lib.hid ((h.alloc (.cells #[.int .i64 0, .string ⟨#[]⟩] 80)).alloc (.cells #[.int .i64 sg, .string ⟨#[]⟩] 80))
  have HT := Lib.hid (HF.out.tab (K := K) (Nat.le_of_lt hl) (fun k e => by omega) hT)
  obtain ⟨a, ha, q0, q1, q2⟩ := h.opens
  clear h hT hB
  -- from the name on: the value is n, the parser at s1
  have HN : Hid (∀ (n : Int) (s1 : St) (W : World), FrS w.heap.size (fun k => k = K) w W → Blk W w.heap.size 80 #[.int .i64 0, .string ⟨#[]⟩] → Blk W (w.heap.size + 1) 80 #[.int .i64 n, .string ⟨#[]⟩] → PsM S K s1 W →
      Calls Tryz.prog 27 #[.pointer (some ⟨K, 0, none⟩)] W fun e w' => FrS w.heap.size (fun k => k = K) w w' ∧ (∀ r, pName s1 = some r → e = .returned (.string (Bs r.1)) ∧ Blk w' w.heap.size 80 #[.int .i64 0, .string ⟨#[]⟩] ∧ Blk w' (w.heap.size + 1) 80 #[.int .i64 n, .string ⟨#[]⟩] ∧ PsM S K r.2 w') ∧ (pName s1 = none → PanE S e)) := by
    intro n s1 W h1 h2 h3 h4
    refine (name_any S K s1 W h4 hs).mono ?_
    rintro e w' ⟨g1, g2, g3⟩
    exact ⟨h1.grown g1 h1.size (.inr rfl), fun r hr => ⟨(g2 r hr).1, h2.gr g1 (by omega), h3.gr g1 (by omega), (g2 r hr).2⟩, g3⟩
  -- the end: the name is stored, the value copied
  have HE : Hid (∀ (n : Int) (nm : Src) (s3 : St) (W : World), FrS w.heap.size (fun k => k = K) w W → Blk W w.heap.size 80 #[.int .i64 0, .string ⟨#[]⟩] → Blk W (w.heap.size + 1) 80 #[.int .i64 n, .string ⟨#[]⟩] → PsM S K s3 W →
      w.grownBy (((W.setCell ⟨w.heap.size + 1, 1, none⟩ (.string (Bs nm))).setCell ⟨w.heap.size, 0, none⟩ (.int .i64 n)).setCell ⟨w.heap.size, 1, none⟩ (.string (Bs nm))) (some K) ∧ PsM S K s3 (((W.setCell ⟨w.heap.size + 1, 1, none⟩ (.string (Bs nm))).setCell ⟨w.heap.size, 0, none⟩ (.int .i64 n)).setCell ⟨w.heap.size, 1, none⟩ (.string (Bs nm))) ∧
      Blk (((W.setCell ⟨w.heap.size + 1, 1, none⟩ (.string (Bs nm))).setCell ⟨w.heap.size, 0, none⟩ (.int .i64 n)).setCell ⟨w.heap.size, 1, none⟩ (.string (Bs nm))) w.heap.size 80 #[.int .i64 n, .string (Bs nm)]) := by
    intro n nm s3 W h1 h2 h3 h4
    refine ⟨(((h1.put (p := ⟨w.heap.size + 1, 1, none⟩) (.inl (by simp)) _).put (p := ⟨w.heap.size, 0, none⟩) (.inl (by simp)) _).put (p := ⟨w.heap.size, 1, none⟩) (.inl (by simp)) _).to fun _ h => h, ?_, ?_⟩
    · exact ((h4.far (p := ⟨w.heap.size + 1, 1, none⟩) (by simp; omega) _).far (p := ⟨w.heap.size, 0, none⟩) (by simp; omega) _).far (p := ⟨w.heap.size, 1, none⟩) (by simp; omega) _
    · exact tm_put1 (tm_put (h2.far (p := ⟨w.heap.size + 1, 1, none⟩) (by simp) _) _) _
  obtain ⟨wd, rest⟩ := s
  cases wd with
  | nil =>
    go_enter Tryz.func70, Tryz.ntmps70
    go_wp2_with fail
    refine (HN.out sg ([], rest) _ HF.out HR.out HB.out HP.out).mono ?_
    rintro e w3 ⟨hf, -, hp⟩
    obtain ⟨a2, ha2, rfl⟩ := hp rfl
    have HF3 := Lib.hid hf
    clear hf hp
    go_wp2_with fail
    exact ⟨rfl, HF3.out.to fun _ h => h, fun r hr => (by cases hr), fun _ => ⟨a2, ha2, rfl⟩⟩
  | cons c r =>
    by_cases hc : c.toNat ≤ 57
    · have u0 : ((Bs (c :: r))[0]'(by simp [ByteArray.size])).toNat ≤ 57 := hc
      have hV : pTerm sg (c :: r, rest) = (match pNum 1000 (c :: r, rest) with
        | none => none
        | some (n, s2) => match pName s2 with | none => none | some (nm, s3) => some ((sg * n, nm), s3)) := if_pos (by simp [numB, hc])
      have HV := Lib.hid hV
      clear hV
      generalize pTerm sg (c :: r, rest) = V at *
      go_enter Tryz.func70, Tryz.ntmps70
      go_upto_region 3 with (fail)
      have HNu : Hid (∀ W, Below (w.alloc (.cells #[.int .i64 0, .string ⟨#[]⟩] 80)).heap.size.succ ((w.alloc (.cells #[.int .i64 0, .string ⟨#[]⟩] 80)).alloc (.cells #[.int .i64 sg, .string ⟨#[]⟩] 80)) W → Calls Tryz.prog 74 #[.pointer (some ⟨K, 0, none⟩), .int .i64 1000] W fun e w' => FrS w.heap.size (fun k => k = K) w w' ∧ (∀ r', pNum 1000 (c :: r, rest) = some r' → e = .returned (.int .i64 r'.1) ∧ Blk w' w.heap.size 80 #[.int .i64 0, .string ⟨#[]⟩] ∧ Blk w' (w.heap.size + 1) 80 #[.int .i64 sg, .string ⟨#[]⟩] ∧ PsM S K r'.2 w') ∧ (pNum 1000 (c :: r, rest) = none → PanE S e)) := by
        intro W hW
        have hz : (w.alloc (.cells #[.int .i64 0, .string ⟨#[]⟩] 80)).heap.size.succ = w.heap.size + 2 := by simp
        rw [hz] at hW
        refine (number_any S K (c :: r, rest) 1000 W (HP.out.below hW (by omega)) hs (HT.out.below (hW.mono (by omega)))).mono ?_
        rintro e w' ⟨g1, g2, g3⟩
        have hF : FrS w.heap.size (fun k => k = K) w W := HF.out.trans (FrS.of_below hW (by omega))
        exact ⟨hF.grown g1 hF.size (.inr rfl), fun r hr => ⟨(g2 r hr).1, (HR.out.below hW (by omega)).gr g1 (by omega), (HB.out.below hW (by omega)).gr g1 (by omega), (g2 r hr).2⟩, g3⟩
      obtain ⟨b0, b1, bf0, bf1, bl⟩ := two_cells HB.out
      generalize (w.alloc (.cells #[.int .i64 0, .string ⟨#[]⟩] 80)).alloc (.cells #[.int .i64 sg, .string ⟨#[]⟩] 80) = w1 at *
      cases hh : pNum 1000 (c :: r, rest) with
      | none =>
        have HVn := Lib.hid (show V = none by rw [HV.out, hh])
        go_region_dies
        all_goals go_wp2_with (go_at_call 74; refine (HNu.out _ (by exact (Below.refl _ _).drew)).mono ?_; rintro e w3 ⟨hf, -, hp⟩; obtain ⟨a2, ha2, rfl⟩ := hp hh)
        all_goals exact ⟨rfl, hf.to fun _ h => h, fun r hr => (by rw [HVn.out] at hr; cases hr), fun _ => ⟨a2, ha2, rfl⟩⟩
      | some x =>
        obtain ⟨n, s2⟩ := x
        have hn := (pNum_len hh).2
        have HV2 := Lib.hid (show V = (match pName s2 with | none => none | some (nm, s3) => some ((sg * n, nm), s3)) by rw [HV.out, hh])
        have hmul : -1000 ≤ sg * n ∧ sg * n ≤ 1000 := by dsimp only at hn; rcases h1 with rfl | rfl <;> omega
        dsimp only at hn
        go_region_with ((go_at_call 74; refine (HNu.out _ (by exact (Below.refl _ _).drew)).mono ?_; rintro e w3 ⟨hf, hq, -⟩; obtain ⟨rfl, k1, k2, k3⟩ := hq _ hh; obtain ⟨t0, t1, tf0, tf1, tl⟩ := two_cells k2))
        all_goals
          have hwr : IntKind.i64.wrap (sg * n) = sg * n := IntWalk.i64_in _ (by omega)
          rw [hwr]
          have b1' := k1.far (p := ⟨w.heap.size + 1, 0, none⟩) (by simp) (.int .i64 (sg * n))
          have b2' := tm_put k2 (.int .i64 (sg * n))
          have p3' := k3.far (p := ⟨w.heap.size + 1, 0, none⟩) (by simp; omega) (.int .i64 (sg * n))
          have f3' := hf.put (p := ⟨w.heap.size + 1, 0, none⟩) (.inl (by simp)) (.int .i64 (sg * n))
          clear k1 k2 k3 hf hq t0 t1 tf0 tf1 tl hwr b0 b1 bf0 bf1 bl hh
          generalize w3.setCell ⟨w.heap.size + 1, 0, none⟩ (.int .i64 (sg * n)) = w5 at *
          go_wp2_with fail
          refine (HN.out (sg * n) s2 w5 f3' b1' b2' p3').mono ?_
          rintro e w6 ⟨hf, hq, hp⟩
          have HF3 := Lib.hid hf
          clear hf b1' b2' p3' f3'
          cases hh : pName s2 with
          | none =>
            obtain ⟨a2, ha2, rfl⟩ := hp hh
            have HVn := Lib.hid (show V = none by rw [HV2.out, hh])
            clear hp hq hh
            go_wp2_with fail
            exact ⟨rfl, HF3.out.to fun _ h => h, fun r hr => (by rw [HVn.out] at hr; cases hr), fun _ => ⟨a2, ha2, rfl⟩⟩
          | some x =>
            obtain ⟨nm, s3⟩ := x
            obtain ⟨rfl, b1, b2, p3⟩ := hq _ hh
            have HVs := Lib.hid (show V = some ((sg * n, nm), s3) by rw [HV2.out, hh])
            have HX := Lib.hid (HE.out (sg * n) nm s3 w6 HF3.out b1 b2 p3)
            obtain ⟨r0, r1, rf0, rf1, rl⟩ := two_cells b1
            obtain ⟨t0, t1, tf0, tf1, tl⟩ := two_cells b2
            clear hp hq hh b1 b2 p3
            dsimp only at *
            generalize hNM : Bs nm = NM at *
            have HNM := Lib.hid hNM
            clear hNM
            generalize sg * n = N at *
            go_wp2_with fail
            clear r0 r1 rf0 rf1 t0 t1 tf0 tf1
            generalize ((w6.setCell ⟨w.heap.size + 1, 1, none⟩ (.string NM)).setCell ⟨w.heap.size, 0, none⟩ (.int .i64 N)).setCell ⟨w.heap.size, 1, none⟩ (.string NM) = w4 at *
            obtain ⟨k0, k1, -⟩ := two_cells HX.out.2.2
            refine bodyPost_ret (v := .agg #[.int .i64 N, .string NM]) (by simp [results, Tryz.results70, go_sem, k0, k1]) rfl ?_
            exact ⟨HX.out.1, fun r hr => (by rw [HVs.out] at hr; cases hr; exact ⟨by rw [← HNM.out], HX.out.2.1⟩), fun hr => (by rw [HVs.out] at hr; cases hr)⟩
    · have u0 : ¬ ((Bs (c :: r))[0]'(by simp [ByteArray.size])).toNat ≤ 57 := hc
      have hV : pTerm sg (c :: r, rest) = (match pName (c :: r, rest) with | none => none | some (nm, s3) => some ((sg, nm), s3)) := if_neg (by simp [numB, hc])
      have HV := Lib.hid hV
      clear hV
      generalize pTerm sg (c :: r, rest) = V at *
      go_enter Tryz.func70, Tryz.ntmps70
      go_wp2_with fail
      refine (HN.out sg _ _ HF.out HR.out HB.out HP.out).mono ?_
      rintro e w3 ⟨hf, hq, hp⟩
      have HF3 := Lib.hid hf
      clear hf
      cases hh : pName (c :: r, rest) with
      | none =>
        obtain ⟨a2, ha2, rfl⟩ := hp hh
        have HVn := Lib.hid (show V = none by rw [HV.out, hh])
        clear hp hq hh
        go_wp2_with fail
        exact ⟨rfl, HF3.out.to fun _ h => h, fun r hr => (by rw [HVn.out] at hr; cases hr), fun _ => ⟨a2, ha2, rfl⟩⟩
      | some x =>
        obtain ⟨nm, s3⟩ := x
        obtain ⟨rfl, b1, b2, p3⟩ := hq _ hh
        have HVs := Lib.hid (show V = some ((sg, nm), s3) by rw [HV.out, hh])
        have HX := Lib.hid (HE.out sg nm s3 w3 HF3.out b1 b2 p3)
        obtain ⟨r0, r1, rf0, rf1, rl⟩ := two_cells b1
        obtain ⟨t0, t1, tf0, tf1, tl⟩ := two_cells b2
        clear hp hq hh b1 b2 p3
        dsimp only at *
        generalize hNM : Bs nm = NM at *
        have HNM := Lib.hid hNM
        clear hNM
        go_wp2_with fail
        clear r0 r1 rf0 rf1 t0 t1 tf0 tf1
        generalize ((w3.setCell ⟨w.heap.size + 1, 1, none⟩ (.string NM)).setCell ⟨w.heap.size, 0, none⟩ (.int .i64 sg)).setCell ⟨w.heap.size, 1, none⟩ (.string NM) = w4 at *
        obtain ⟨k0, k1, -⟩ := two_cells HX.out.2.2
        refine bodyPost_ret (v := .agg #[.int .i64 sg, .string NM]) (by simp [results, Tryz.results70, go_sem, k0, k1]) rfl ?_
        exact ⟨HX.out.1, fun r hr => (by rw [HVs.out] at hr; cases hr; exact ⟨by rw [← HNM.out], HX.out.2.1⟩), fun hr => (by rw [HVs.out] at hr; cases hr)⟩
end Go.Proofs.YtonmpealebggoaaGreatDoor
