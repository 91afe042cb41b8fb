/- The deferred closure of Parse. The walk of Parse. -/
import Derived.Test.YthbdhijkdldmoaaGreatDoorObjList
import Derived.Test.YthbdhijkdldmoaaGreatDoorTokSmall
import Derived.Tactics
import Derived.Tactics2
import Derived.Defers
import Derived.Recover
import Derived.RegionTactic
import Derived.BigRegion
import Derived.Test.YthbdhijkdldmoaaGreatDoorObjNode
import Derived.Test.YthbdhijkdldmoaaGreatDoorObjObj
import Derived.Test.YthbdhijkdldmoaaGreatDoorObjPri
import Derived.Laws.EntriesVeiled
import Derived.Deep.DeepCutAuto
import Derived.Deep.CutBlock
namespace Go.Proofs.YthbdhijkdldmoaaGreatDoor
open Go.RowKit Tk Ob
theorem rec_tmps (x y z : Value) : (#[x, y, z] ++ Array.replicate (Tryz.f22.ntmps - (#[x, y, z] : Array Value).size) undef : Array Value) = #[x, y, z, undef, undef, undef, undef, undef, undef, undef, undef, undef, undef, undef, undef, undef, undef] := rfl
set_option maxRecDepth 100000 in
set_option maxHeartbeats 4000000 in
theorem rec_idle (a b c : Addr) (w : World) :
    CallsD Tryz.prog 22 #[.pointer (some a), .pointer (some b), .pointer (some c)] .returning w fun e u' w' => e = .returned (.tuple #[]) ∧ u' = .returning ∧ w' = w := by
  refine callsD_of_wpS Tryz.func22 rfl fun c₀ cs hu => ?_
  rw [rec_tmps]
  apply wpS_seq
  apply wpS_region
  simp [wpOpsS, go_sem, recoverD, hu, Exit.thenS]
  refine wpS_of_wp ?_
  go_wp2_with fail
  exact ⟨rfl, .returning, by cases c₀; simp at hu; subst hu; rfl, .tuple #[], by simp [results, Tryz.results22, go_sem], rfl, rfl, rfl⟩
set_option maxRecDepth 100000 in
set_option maxHeartbeats 4000000 in
theorem rec_fail (a b c : Nat) (p q : Int) (w : World) (va : V5) (vb vc : Value) (ha : Blk w a 25 #[va.k, va.i, va.t, va.ks, va.os]) (hb : Blk w b 3 #[vb]) (hc : Blk w c 27 #[vc]) (hab : a ≠ b) (hac : a ≠ c) (hbc : b ≠ c) :
    CallsD Tryz.prog 22 #[.pointer (some ⟨a, 0, none⟩), .pointer (some ⟨b, 0, none⟩), .pointer (some ⟨c, 0, none⟩)] (.panicking [failV p q]) w fun e u' w' => e = .returned (.tuple #[]) ∧ u' = .panicking [{ failV p q with recovered := true }] ∧
      Blk w' a 25 #[.int .i64 0, .int .i64 0, .string ⟨#[]⟩, .slice none 0 0, .slice none 0 0] ∧ Blk w' b 3 #[.int .i64 p] ∧ Blk w' c 27 #[.int .i64 q] ∧ FrS w.heap.size (fun k => k = a ∨ k = b ∨ k = c) w w' := by
  have hta : ∀ W, (Instr.typeAssert (.iface 51 (.agg #[.int .i64 p, .int .i64 q])) 20 51 true).run Tryz.prog W = .ok (.tuple #[.agg #[.int .i64 p, .int .i64 q], .bool true]) W := fun W => by kernel_rfl
  obtain ⟨a0, a1, a2, a3, a4⟩ := b5n_cells ha
  have b0 : w.cell? ⟨b, 0, none⟩ = some vb := by simpa using Blk.cell hb 0
  have c0 : w.cell? ⟨c, 0, none⟩ = some vc := by simpa using Blk.cell hc 0
  have al := ha.lt
  have bl := hb.lt
  have cl := hc.lt
  have fa0 := Blk.frozen ha 0
  have fa1 := Blk.frozen ha 1
  have fa2 := Blk.frozen ha 2
  have fa3 := Blk.frozen ha 3
  have fa4 := Blk.frozen ha 4
  have fb := Blk.frozen hb 0
  have fc := Blk.frozen hc 0
  refine callsD_of_wpS Tryz.func22 rfl fun c₀ cs hu => ?_
  rw [rec_tmps]
  apply wpS_seq
  apply wpS_region
  simp [wpOpsS, go_sem, recoverD, hu, Exit.thenS, failV]
  refine wpS_of_wp ?_
  go_wp2_with fail
  have hx := Blk.new w 51 #[.int .i64 p, .int .i64 q]
  have hf1 : FrS w.heap.size (fun _ => False) w (w.alloc (.cells #[.int .i64 p, .int .i64 q] 51)) := (FrS.refl _ _ _).alloc (Nat.le_refl _) _
  have hs1 : w.heap.size + 1 = (w.alloc (.cells #[.int .i64 p, .int .i64 q] 51)).heap.size := by simp
  have HF1 := Lib.hid hf1
  have HS1 := Lib.hid hs1
  have HX := Lib.hid hx
  have HA := Lib.hid (hf1.blk ha al (fun h => h))
  have HB := Lib.hid (hf1.blk hb bl (fun h => h))
  have HC := Lib.hid (hf1.blk hc cl (fun h => h))
  clear hx hf1 hs1 ha hb hc a0 a1 a2 a3 a4 b0 c0 fa0 fa1 fa2 fa3 fa4 fb fc
  generalize w.alloc (.cells #[.int .i64 p, .int .i64 q] 51) = w1 at *
  have hs1 := HS1.out
  obtain ⟨a0, a1, a2, a3, a4⟩ := b5n_cells HA.out
  have b0 : w1.cell? ⟨b, 0, none⟩ = some vb := by simpa using Blk.cell HB.out 0
  have c0 : w1.cell? ⟨c, 0, none⟩ = some vc := by simpa using Blk.cell HC.out 0
  have x0 : w1.cell? ⟨w.heap.size, 0, none⟩ = some (.int .i64 p) := by simpa using Blk.cell HX.out 0
  have x1 : w1.cell? ⟨w.heap.size, 1, none⟩ = some (.int .i64 q) := by simpa using Blk.cell HX.out 1
  have fa0 := Blk.frozen HA.out 0
  have fa1 := Blk.frozen HA.out 1
  have fa2 := Blk.frozen HA.out 2
  have fa3 := Blk.frozen HA.out 3
  have fa4 := Blk.frozen HA.out 4
  have fb := Blk.frozen HB.out 0
  have fc := Blk.frozen HC.out 0
  have na : a ≠ w.heap.size := by omega
  have nb : b ≠ w.heap.size := by omega
  have nc : c ≠ w.heap.size := by omega
  have al1 : a < w1.heap.size := by omega
  have bl1 : b < w1.heap.size := by omega
  have cl1 : c < w1.heap.size := by omega
  go_region
  go_wp2_with fail
  have hA := b5_put (v := ⟨_, _, _, _, _⟩) HA.out ⟨.int .i64 0, .int .i64 0, .string ⟨#[]⟩, .slice none 0 0, .slice none 0 0⟩
  have hFa := b5_frs' (FrS.refl w1.heap.size (fun k => k = a ∨ k = b ∨ k = c) w1) (g := a) (.inl rfl) ⟨.int .i64 0, .int .i64 0, .string ⟨#[]⟩, .slice none 0 0, .slice none 0 0⟩
  have hB := HB.out
  refine ⟨rfl, .panicking [{ failV p q with recovered := true }], rfl, .tuple #[], by simp [results, Tryz.results22, go_sem], rfl, rfl, ?_, ?_, ?_, ?_⟩
  · exact ((hA.far (p := ⟨b, 0, none⟩) hab _).far (p := ⟨c, 0, none⟩) hac _).drew
  · have h1 : Blk _ b 3 #[vb] := (((((HB.out.far (p := ⟨a, 0, none⟩) (Ne.symm hab) (.int .i64 0)).far (p := ⟨a, 1, none⟩) (Ne.symm hab) (.int .i64 0)).far (p := ⟨a, 2, none⟩) (Ne.symm hab) (.string ⟨#[]⟩)).far (p := ⟨a, 3, none⟩) (Ne.symm hab) (.slice none 0 0)).far (p := ⟨a, 4, none⟩) (Ne.symm hab) (.slice none 0 0))
    have h2 := h1.put 0 (.int .i64 p)
    exact (Blk.far (by simpa using h2) (p := ⟨c, 0, none⟩) hbc (.int .i64 q)).drew
  · have h1 : Blk _ c 27 #[vc] := ((((((HC.out.far (p := ⟨a, 0, none⟩) (Ne.symm hac) (.int .i64 0)).far (p := ⟨a, 1, none⟩) (Ne.symm hac) (.int .i64 0)).far (p := ⟨a, 2, none⟩) (Ne.symm hac) (.string ⟨#[]⟩)).far (p := ⟨a, 3, none⟩) (Ne.symm hac) (.slice none 0 0)).far (p := ⟨a, 4, none⟩) (Ne.symm hac) (.slice none 0 0)).far (p := ⟨b, 0, none⟩) (Ne.symm hbc) (.int .i64 p))
    have h2 := h1.put 0 (.int .i64 q)
    exact Blk.drew (by simpa using h2)
  · have h3 := (hFa.put (p := ⟨b, 0, none⟩) (.inr (.inr (.inl rfl))) (.int .i64 p)).put (p := ⟨c, 0, none⟩) (.inr (.inr (.inr rfl))) (.int .i64 q)
    exact (HF1.out.weak (Nat.le_refl _) fun _ _ h => h.elim).trans (h3.drew.weak (by omega) fun _ _ h => h)
end Go.Proofs.YthbdhijkdldmoaaGreatDoor
namespace Go.Proofs.YthbdhijkdldmoaaGreatDoor
open Go.RowKit Tk Ob
def ParsePost (r : Option Ox) (w : World) (e : Ending) (w' : World) : Prop :=
  Below w.heap.size w w' ∧ match r with
    | some o => ∃ v : V5, ObjV (fun k => w.heap.size ≤ k) w' v o ∧ e = .returned (.tuple #[v.val, .int .i64 0, .int .i64 0])
    | none => ∃ a c, c ≠ 0 ∧ e = .returned (.tuple #[.agg #[.int .i64 0, .int .i64 0, .string ⟨#[]⟩, .slice none 0 0, .slice none 0 0], .int .i64 a, .int .i64 c])
/-- The four blocks of a call of Parse. -/
structure ParW (w wx : World) (S : ByteArray) (v : V5) : Prop where
  b0 : Blk wx w.heap.size 25 #[v.k, v.i, v.t, v.ks, v.os]
  b1 : Blk wx (w.heap.size + 1) 3 #[.int .i64 0]
  b2 : Blk wx (w.heap.size + 1 + 1) 27 #[.int .i64 0]
  bl : Below w.heap.size w wx
theorem ParW.fr {w wx wy : World} {S : ByteArray} {v : V5} (h : ParW w wx S v) (hf : FrP (w.heap.size + 1 + 1 + 1) wx wy) (hc : w.heap.size + 1 + 1 + 1 < wx.heap.size) : ParW w wy S v :=
  ⟨hf.blk h.b0 (by omega) (by omega), hf.blk h.b1 (by omega) (by omega), hf.blk h.b2 (by omega) (by omega), h.bl.trans (hf.below (by have := h.bl.size; omega) fun k e => by omega)⟩
theorem parse_none {s : Tk.Src} (h : 8192 < s.length ∨ nxP s = none) : parseO s = none := by
  unfold parseO
  by_cases h1 : 8192 < s.length
  · rw [if_pos h1]
  · rw [if_neg h1, h.resolve_left h1]
theorem par_zero (w : World) (S : ByteArray) : ∃ wx : World, wx = ((((w.alloc (.cells #[.int .i64 0, .int .i64 0, .string ⟨#[]⟩, .slice none 0 0, .slice none 0 0] 25)).alloc (.cells #[.int .i64 0] 3)).alloc (.cells #[.int .i64 0] 27)).alloc (.cells #[.string S, .int .i64 0, .int .i64 0, .string ⟨#[]⟩, .int .i64 0, .int .i64 0] 55)) ∧
    ParW w wx S ⟨.int .i64 0, .int .i64 0, .string ⟨#[]⟩, .slice none 0 0, .slice none 0 0⟩ ∧ Ps wx (w.heap.size + 1 + 1 + 1) S 0 0 ⟨#[]⟩ 0 ((0 : Nat) : Int) ∧ wx.heap.size = w.heap.size + 1 + 1 + 1 + 1 := by
  refine ⟨_, rfl, ⟨?_, ?_, ?_, ?_⟩, ?_, by simp⟩
  · exact (((Blk.new w _ _).alloc _).alloc _).alloc _
  · have := ((Blk.new (w.alloc (.cells #[.int .i64 0, .int .i64 0, .string ⟨#[]⟩, .slice none 0 0, .slice none 0 0] 25)) 3 #[.int .i64 0]).alloc (.cells #[.int .i64 0] 27)).alloc (.cells #[.string S, .int .i64 0, .int .i64 0, .string ⟨#[]⟩, .int .i64 0, .int .i64 0] 55)
    simpa using this
  · have := (Blk.new ((w.alloc (.cells #[.int .i64 0, .int .i64 0, .string ⟨#[]⟩, .slice none 0 0, .slice none 0 0] 25)).alloc (.cells #[.int .i64 0] 3)) 27 #[.int .i64 0]).alloc (.cells #[.string S, .int .i64 0, .int .i64 0, .string ⟨#[]⟩, .int .i64 0, .int .i64 0] 55)
    simpa using this
  · exact ((((Below.refl _ _).alloc (Nat.le_refl _) _).alloc (by simp) _).alloc (by simp; omega) _).alloc (by simp; omega) _
  · have := Blk.new (((w.alloc (.cells #[.int .i64 0, .int .i64 0, .string ⟨#[]⟩, .slice none 0 0, .slice none 0 0] 25)).alloc (.cells #[.int .i64 0] 3)).alloc (.cells #[.int .i64 0] 27)) 55 #[.string S, .int .i64 0, .int .i64 0, .string ⟨#[]⟩, .int .i64 0, .int .i64 0]
    unfold Ps
    simpa using this
theorem par_panic (w w1 : World) (S : ByteArray) (v : V5) (x y : Int) (hy : y ≠ 0) (h : ParW w w1 S v) (R : Option Ox) (hR : R = none) (tm : Array Value) (h2 : tm[2]? = some (.pointer (some ⟨w.heap.size, 0, none⟩))) (h3 : tm[3]? = some (.pointer (some ⟨w.heap.size + 1, 0, none⟩))) (h4 : tm[4]? = some (.pointer (some ⟨w.heap.size + 1 + 1, 0, none⟩))) :
    bodyPostD Tryz.prog Tryz.f12 (ParsePost R w) (Exit.panic [failV x y]) { tmps := tm, defers := [{ target := Target.fn (Fn.func 22) #[.pointer (some ⟨w.heap.size, 0, none⟩), .pointer (some ⟨w.heap.size + 1, 0, none⟩), .pointer (some ⟨w.heap.size + 1 + 1, 0, none⟩)], args := #[] }] } w1 := by
  refine leaves_cons (f := 22) (args := #[.pointer (some ⟨w.heap.size, 0, none⟩), .pointer (some ⟨w.heap.size + 1, 0, none⟩), .pointer (some ⟨w.heap.size + 1 + 1, 0, none⟩)]) (by simp) (by simp [go_sem]) ?_
  refine (rec_fail _ _ _ x y w1 v _ _ h.b0 h.b1 h.b2 (by omega) (by omega) (by omega)).mono ?_
  rintro e u' w2 ⟨rfl, rfl, hA, hB, hC, hf⟩
  have hl : Below w.heap.size w w2 := h.bl.trans (hf.below h.bl.size fun k e => by omega)
  obtain ⟨a0, a1, a2, a3, a4⟩ := b5n_cells hA
  have b0 : w2.cell? ⟨w.heap.size + 1, 0, none⟩ = some (.int .i64 x) := by simpa using Blk.cell hB 0
  have c0 : w2.cell? ⟨w.heap.size + 1 + 1, 0, none⟩ = some (.int .i64 y) := by simpa using Blk.cell hC 0
  simp [Leaves, settle, results, Tryz.results12, go_sem, h2, h3, h4, a0, a1, a2, a3, a4, b0, c0]
  subst hR
  exact ⟨hl, x, y, hy, rfl⟩
theorem par_ok (w w1 : World) (S : ByteArray) (v : V5) (h : ParW w w1 S v) (R : Option Ox) (o : Ox) (hR : R = some o) (ho : ObjV (fun k => w.heap.size ≤ k) w1 v o) (tm : Array Value) (h2 : tm[2]? = some (.pointer (some ⟨w.heap.size, 0, none⟩))) (h3 : tm[3]? = some (.pointer (some ⟨w.heap.size + 1, 0, none⟩))) (h4 : tm[4]? = some (.pointer (some ⟨w.heap.size + 1 + 1, 0, none⟩))) :
    bodyPostD Tryz.prog Tryz.f12 (ParsePost R w) Exit.ret { tmps := tm, defers := [{ target := Target.fn (Fn.func 22) #[.pointer (some ⟨w.heap.size, 0, none⟩), .pointer (some ⟨w.heap.size + 1, 0, none⟩), .pointer (some ⟨w.heap.size + 1 + 1, 0, none⟩)], args := #[] }] } w1 := by
  obtain ⟨a0, a1, a2, a3, a4⟩ := b5n_cells h.b0
  have b0 : w1.cell? ⟨w.heap.size + 1, 0, none⟩ = some (.int .i64 0) := by simpa using Blk.cell h.b1 0
  have c0 : w1.cell? ⟨w.heap.size + 1 + 1, 0, none⟩ = some (.int .i64 0) := by simpa using Blk.cell h.b2 0
  refine leaves_cons (f := 22) (args := #[.pointer (some ⟨w.heap.size, 0, none⟩), .pointer (some ⟨w.heap.size + 1, 0, none⟩), .pointer (some ⟨w.heap.size + 1 + 1, 0, none⟩)]) (by simp) (by simp [go_sem]) ?_
  refine (rec_idle _ _ _ w1).mono ?_
  rintro e u' w2 ⟨rfl, rfl, rfl⟩
  simp [Leaves, settle, results, Tryz.results12, go_sem, h2, h3, h4, a0, a1, a2, a3, a4, b0, c0]
  subst hR
  exact ⟨h.bl, v, ho, rfl⟩
set_option maxRecDepth 100000 in
set_option maxHeartbeats 16000000 in
theorem parse_any (S : ByteArray) (w : World) (hT : Tab10 w) :
    Calls Tryz.prog 12 #[.string S] w (ParsePost (parseO (bys S)) w) := by
  have hmf : ∀ (fn : Fn) (first cap : Array Value) (w : World), (Instr.makeFunc fn first cap).run Tryz.prog w = .ok (.func fn first cap) w := fun _ _ _ _ => rfl
  obtain ⟨wx, hwx, hpar, hps, hsx⟩ := par_zero w S
  have HPar := Lib.hid hpar
  have HSx := Lib.hid hsx
  have HAd : Hid (∃ q, (q = none → parseO (bys S) = none) ∧ (q ≠ none → ¬ 8192 < (bys S).length ∧ q = nxP (bys S)) ∧ Calls Tryz.prog 23 #[.pointer (some ⟨w.heap.size + 1 + 1 + 1, 0, none⟩)] wx (AdvPost S (w.heap.size + 1 + 1 + 1) q wx)) := by
    by_cases hlong : 8192 < S.size
    · exact ⟨none, fun _ => parse_none (.inl (by rw [bys_len]; exact hlong)), fun h => absurd rfl h, advance_long S hlong _ _ _ _ _ 0 wx hps⟩
    · refine ⟨nxP (bys S), fun h => parse_none (.inr h), fun h => ⟨by rw [bys_len]; exact hlong, rfl⟩, ?_⟩
      have := advance_any S (by omega) (w.heap.size + 1 + 1 + 1) 0 0 ⟨#[]⟩ 0 0 (by omega) wx hps
      rwa [List.drop_zero] at this
  obtain ⟨q, hq1, hq2, hq3⟩ := HAd.out
  have HQ1 := Lib.hid hq1
  have HQ2 := Lib.hid hq2
  have HQ3 := Lib.hid hq3
  generalize hR : parseO (bys S) = R at *
  have HR := Lib.hid hR
  have HTa : Hid (∀ W, Below w.heap.size w W → Tab10 W) := fun W hb => Tab10.later hT hb
  clear hpar hps hsx HAd hq1 hq2 hq3 hR hT
  go_enter_defers Tryz.func12, Tryz.ntmps12
  go_wp2_with fail
  rw [← hwx]
  clear hwx
  have hsx := HSx.out
  refine HQ3.out.mono ?_
  rintro e w1 ⟨hf1, hv1⟩
  have hs1 := hf1.size
  have HPar1 := Lib.hid (HPar.out.fr hf1 (by omega))
  clear hf1 HQ3
  cases q with
  | none =>
    obtain ⟨x, y, hy, rfl⟩ := hv1
    have HY := Lib.hid hy
    have HRn := Lib.hid (HQ1.out rfl)
    clear hy
    go_wp2_with fail
    exact par_panic w w1 S _ x y HY.out HPar1.out R HRn.out _ rfl rfl rfl
  | some bl =>
    obtain ⟨b1, l1⟩ := bl
    obtain ⟨rfl, hp1⟩ := hv1
    obtain ⟨hlong, hnx⟩ := HQ2.out (by simp)
    have hS : S.size ≤ 8192 := by rw [bys_len] at hlong; omega
    have HR2 : Hid (R = match objP 12 b1 l1 with
      | none => none
      | some (o, l2) => match nxP l2 with
        | none => none
        | some (t2, _) => if t2.kind ≠ 0 then none else match printO o with
          | .error _ => none
          | .ok _ => some o) := by
      unfold Hid; rw [← HR.out]; unfold parseO; rw [if_neg hlong, ← hnx]; rfl
    have HOb := Lib.hid (object_any S hS (w.heap.size + 1 + 1 + 1) 12 (Nat.le_refl _) b1 l1 w1 hp1)
    rw [show ((13 - 12 : Nat) : Int) = 1 from rfl] at HOb
    have HSS := Lib.hid hS
    clear hlong hnx hp1 HQ1 HQ2 HR hS
    generalize hgo : objP 12 b1 l1 = go at *
    clear hgo
    go_wp2_with fail
    refine HOb.out.mono ?_
    rintro e w2 ⟨hf2, hq2⟩
    have hs2 := hf2.size
    have HPar2 := Lib.hid (HPar1.out.fr hf2 (by omega))
    clear hf2 HOb
    cases go with
    | none =>
      obtain ⟨x, y, hy, rfl⟩ := hq2
      have HY := Lib.hid hy
      clear hy
      go_wp2_with fail
      exact par_panic w w2 S _ x y HY.out HPar2.out R HR2.out _ rfl rfl rfl
    | some ol =>
      obtain ⟨o, l2⟩ := ol
      obtain ⟨u, b2, rfl, hob, hb2, hps2⟩ := hq2
      have HB2 := Lib.hid hb2
      have HRc : Hid (R = match nxP l2 with
        | none => none
        | some (t2, _) => if t2.kind ≠ 0 then none else match printO o with
          | .error _ => none
          | .ok _ => some o) := HR2.out
      have HOc := Lib.hid hob
      obtain ⟨kv, dv, us, hu, hsl, hsm, -, -⟩ := hob.open_
      subst hu
      obtain ⟨Ak, ck, rfl⟩ := hsl.form
      obtain ⟨Ad, cd, rfl⟩ := hsm.form
      unfold V5.val
      dsimp only
      generalize (strs o.keys).length = n1 at *
      generalize hn2 : o.kids.length = n2 at *
      generalize hk1 : o.kind = k1 at *
      generalize hi1 : o.int = i1 at *
      generalize ht1 : (⟨o.text.toArray⟩ : ByteArray) = T2 at *
      have HPs2 := Lib.hid hps2
      clear hob hb2 hps2 hsl hsm hn2 hk1 hi1 ht1 HR2
      obtain ⟨y0, y1, y2, y3, y4⟩ := b5n_cells HPar2.out.b0
      have z0 := Blk.frozen HPar2.out.b0 0
      have z1 := Blk.frozen HPar2.out.b0 1
      have z2 := Blk.frozen HPar2.out.b0 2
      have z3 := Blk.frozen HPar2.out.b0 3
      have z4 := Blk.frozen HPar2.out.b0 4
      have zl := HPar2.out.b0.lt
      go_upto_region 5 with (fail)
      have hb3 := b5_put (v := ⟨.int .i64 0, .int .i64 0, .string ⟨#[]⟩, .slice none 0 0, .slice none 0 0⟩) HPar2.out.b0 ⟨.int .i64 k1, .int .i64 i1, .string T2, .slice Ak n1 ck, .slice Ad n2 cd⟩
      have hf3 := b5_frs' (FrS.refl w2.heap.size (fun k => k = w.heap.size) w2) (T := fun k => k = w.heap.size) rfl ⟨.int .i64 k1, .int .i64 i1, .string T2, .slice Ak n1 ck, .slice Ad n2 cd⟩
      have HB3 := Lib.hid hb3
      have HF3 := Lib.hid hf3
      clear hb3 hf3 y0 y1 y2 y3 y4 z0 z1 z2 z3 z4
      generalize World.setCell _ _ _ = w3 at *
      have hs3 := HF3.out.size
      have HPar3 : Hid (ParW w w3 S ⟨.int .i64 k1, .int .i64 i1, .string T2, .slice Ak n1 ck, .slice Ad n2 cd⟩) := ⟨HB3.out, HF3.out.blk HPar2.out.b1 (by omega) (by omega), HF3.out.blk HPar2.out.b2 (by omega) (by omega), HPar2.out.bl.trans (HF3.out.below HPar2.out.bl.size fun k e => by omega)⟩
      have HO3 : Hid (ObjV (fun k => w1.heap.size ≤ k) w3 ⟨.int .i64 k1, .int .i64 i1, .string T2, .slice Ak n1 ck, .slice Ad n2 cd⟩ o) := HOc.out.keep HF3.out.size fun k hk hl => HF3.out.block k hl (by omega)
      have HAd := Lib.hid (advance_at S HSS.out (w.heap.size + 1 + 1 + 1) b2 l2 HB2.out w3 (HPs2.out.fr HF3.out (by omega) (by omega)))
      generalize hn2' : nxP l2 = q2 at *
      clear hn2' HB3 HF3 HOc
      go_wp2_with fail
      refine HAd.out.mono ?_
      rintro e w4 ⟨hf4, hv4⟩
      have hs4 := hf4.size
      have HPar4 := Lib.hid (HPar3.out.fr hf4 (by omega))
      have HO4 : Hid (ObjV (fun k => w1.heap.size ≤ k) w4 ⟨.int .i64 k1, .int .i64 i1, .string T2, .slice Ak n1 ck, .slice Ad n2 cd⟩ o) := HO3.out.keep hf4.size fun k hk hl => hf4.block k hl (by omega)
      clear hf4 HAd
      cases q2 with
      | none =>
        obtain ⟨x, y, hy, rfl⟩ := hv4
        have HY := Lib.hid hy
        clear hy
        go_wp2_with fail
        exact par_panic w w4 S _ x y HY.out HPar4.out R HRc.out _ rfl rfl rfl
      | some bl3 =>
        obtain ⟨b3, l3⟩ := bl3
        obtain ⟨rfl, hp4⟩ := hv4
        obtain ⟨ti, tt, ta, tp, hps4, -⟩ := hp4
        obtain ⟨c0, c1, c2, c3, c4, c5⟩ := ps_cells hps4
        have hcl := Blk.lt hps4
        have HRd : Hid (R = if b3.kind ≠ 0 then none else match printO o with
          | .error _ => none
          | .ok _ => some o) := HRc.out
        generalize b3.kind = k3 at *
        clear hps4 HRc
        by_cases e3 : k3 ≠ 0
        · have q3 : (k3 != 0) = true := by simpa using e3
          have HRn : Hid (R = none) := by have := HRd.out; rw [if_pos e3] at this; exact this
          clear e3
          go_wp2_with (go_at_call 25; refine (fail_any _ _ _).mono ?_; rintro e w5 ⟨rfl, rfl⟩)
          exact par_panic w w5 S _ _ 5 (by decide) HPar4.out R HRn.out _ rfl rfl rfl
        · have q3 : (k3 != 0) = false := by simpa using e3
          have HRe : Hid (R = match printO o with
            | .error _ => none
            | .ok _ => some o) := by have := HRd.out; rw [if_neg e3] at this; exact this
          have HPr := Lib.hid (print_obj _ o _ w4 HO4.out (HTa.out _ HPar4.out.bl))
          unfold V5.val at HPr
          dsimp only at HPr
          generalize printO o = pr at *
          obtain ⟨y0, y1, y2, y3, y4⟩ := b5n_cells HPar4.out.b0
          clear e3 HRd
          go_wp2_with fail
          refine HPr.out.mono ?_
          rintro e w5 ⟨hb5, hq5⟩
          have hs5 := hb5.size
          have HPar5 : Hid (ParW w w5 S ⟨.int .i64 k1, .int .i64 i1, .string T2, .slice Ak n1 ck, .slice Ad n2 cd⟩) := ⟨HPar4.out.b0.below hb5 HPar4.out.b0.lt, HPar4.out.b1.below hb5 HPar4.out.b1.lt, HPar4.out.b2.below hb5 HPar4.out.b2.lt, HPar4.out.bl.trans (hb5.mono HPar4.out.bl.size)⟩
          have HO5 := Lib.hid (HO4.out.later hb5)
          clear hb5 HPr y0 y1 y2 y3 y4 c0 c1 c2 c3 c4 c5
          cases pr with
          | error er =>
            obtain ⟨h1, rfl⟩ := hq5
            have H1 := Lib.hid h1
            have he1 : (er != 0) = true := by simpa using h1
            clear h1
            go_wp2_with (go_at_call 25; refine (fail_any _ _ _).mono ?_; rintro e w6 ⟨rfl, rfl⟩)
            exact par_panic w w6 S _ _ er H1.out HPar5.out R HRe.out _ rfl rfl rfl
          | ok s =>
            subst hq5
            obtain ⟨y0, y1, y2, y3, y4⟩ := b5n_cells HPar5.out.b0
            have z0 := Blk.frozen HPar5.out.b0 0
            have z1 := Blk.frozen HPar5.out.b0 1
            have z2 := Blk.frozen HPar5.out.b0 2
            have z3 := Blk.frozen HPar5.out.b0 3
            have z4 := Blk.frozen HPar5.out.b0 4
            have zl5 := HPar5.out.b0.lt
            have g1 : w5.cell? ⟨w.heap.size + 1, 0, none⟩ = some (.int .i64 0) := by simpa using Blk.cell HPar5.out.b1 0
            have g2 : w5.cell? ⟨w.heap.size + 1 + 1, 0, none⟩ = some (.int .i64 0) := by simpa using Blk.cell HPar5.out.b2 0
            have gf1 := Blk.frozen HPar5.out.b1 0
            have gf2 := Blk.frozen HPar5.out.b2 0
            have gl1 := HPar5.out.b1.lt
            have gl2 := HPar5.out.b2.lt
            go_wp2_with fail
            have hA := b5_put (v := ⟨.int .i64 k1, .int .i64 i1, .string T2, .slice Ak n1 ck, .slice Ad n2 cd⟩) HPar5.out.b0 ⟨.int .i64 k1, .int .i64 i1, .string T2, .slice Ak n1 ck, .slice Ad n2 cd⟩
            have hFa := b5_frs' (FrS.refl w5.heap.size (fun k => k = w.heap.size) w5) (T := fun k => k = w.heap.size) rfl ⟨.int .i64 k1, .int .i64 i1, .string T2, .slice Ak n1 ck, .slice Ad n2 cd⟩
            have hB1 := hFa.blk HPar5.out.b1 gl1 (by omega)
            have hB2 := hFa.blk HPar5.out.b2 gl2 (by omega)
            have hO := HO5.out.keep hFa.size fun k hk hl => hFa.block k hl (by omega)
            have hbl : Below w.heap.size w _ := HPar5.out.bl.trans (hFa.below HPar5.out.bl.size fun k e => by omega)
            have HA6 := Lib.hid hA
            have HB16 := Lib.hid hB1
            have HB26 := Lib.hid hB2
            have HO6 := Lib.hid hO
            have HL6 := Lib.hid hbl
            clear hA hFa hB1 hB2 hO hbl y0 y1 y2 y3 y4 z0 z1 z2 z3 z4 g1 g2 gf1 gf2
            generalize ((((w5.setCell ⟨w.heap.size, 0, none⟩ (.int .i64 k1)).setCell ⟨w.heap.size, 1, none⟩ (.int .i64 i1)).setCell ⟨w.heap.size, 2, none⟩ (.string T2)).setCell ⟨w.heap.size, 3, none⟩ (.slice Ak n1 ck)).setCell ⟨w.heap.size, 4, none⟩ (.slice Ad n2 cd) = w6 at *
            have hw7 : ParW w ((w6.setCell ⟨w.heap.size + 1, 0, none⟩ (.int .i64 0)).setCell ⟨w.heap.size + 1 + 1, 0, none⟩ (.int .i64 0)) S ⟨.int .i64 k1, .int .i64 i1, .string T2, .slice Ak n1 ck, .slice Ad n2 cd⟩ := by
              refine ⟨(Blk.far HA6.out (p := ⟨w.heap.size + 1, 0, none⟩) (by show w.heap.size ≠ w.heap.size + 1; omega) _).far (p := ⟨w.heap.size + 1 + 1, 0, none⟩) (by show w.heap.size ≠ w.heap.size + 1 + 1; omega) _, ?_, ?_, ?_⟩
              · have h1 := Blk.put HB16.out 0 (.int .i64 0)
                exact Blk.far (by simpa using h1) (p := ⟨w.heap.size + 1 + 1, 0, none⟩) (by show w.heap.size + 1 ≠ w.heap.size + 1 + 1; omega) _
              · have h1 := Blk.put (Blk.far HB26.out (p := ⟨w.heap.size + 1, 0, none⟩) (by show w.heap.size + 1 + 1 ≠ w.heap.size + 1; omega) (.int .i64 0)) 0 (.int .i64 0)
                simpa using h1
              · exact (HL6.out.setCell (p := ⟨w.heap.size + 1, 0, none⟩) (by show w.heap.size ≤ w.heap.size + 1; omega) _).setCell (p := ⟨w.heap.size + 1 + 1, 0, none⟩) (by show w.heap.size ≤ w.heap.size + 1 + 1; omega) _
            have ho7 : ObjV (fun k => w.heap.size ≤ k) ((w6.setCell ⟨w.heap.size + 1, 0, none⟩ (.int .i64 0)).setCell ⟨w.heap.size + 1 + 1, 0, none⟩ (.int .i64 0)) ⟨.int .i64 k1, .int .i64 i1, .string T2, .slice Ak n1 ck, .slice Ad n2 cd⟩ o := by
              refine (HO6.out.keep (by simp [World.setCell]) fun k hk hl => ?_).mono fun k _ hk => by omega
              rw [Below.heap_setCell _ ⟨w.heap.size + 1 + 1, 0, none⟩ _ k (by show k ≠ w.heap.size + 1 + 1; omega), Below.heap_setCell _ ⟨w.heap.size + 1, 0, none⟩ _ k (by show k ≠ w.heap.size + 1; omega)]
            exact par_ok w _ S _ hw7 R o HRe.out ho7 _ rfl rfl rfl
end Go.Proofs.YthbdhijkdldmoaaGreatDoor
