/- The parser's cond at every level. The deferred closure of Parse. What the walk of Parse keeps; its endings. -/
import Derived.Test.YtonmpealebggoaaGreatDoorPrpCl
import Derived.Tactics
import Derived.Tactics2
import Derived.Defers
import Derived.Recover
import Derived.RegionTactic
import Derived.BigRegion
import Derived.Test.YtonmpealebggoaaGreatDoorPrpPlain
import Derived.Test.YtonmpealebggoaaGreatDoorPrpChk
import Derived.Laws.EntriesVeiled
namespace Go.Proofs.YtonmpealebggoaaGreatDoor
open Go.RowKit Pr
theorem cond_all (S : ByteArray) (K : Nat) (hs : S.size ≤ 4096) : ∀ f, CnAt S K f
  | 0 => fun _ _ _ _ _ _ _ hf => absurd hf (by omega)
  | f + 1 => fun least s w h1 h3 hp hT hf => by
    have HC := cond_all S K hs f
    have hk : (least = 1 ∨ least = 2) ∨ least = 3 := by omega
    rcases hk with hk | rfl
    · exact cond_low S K f HC least hk s w hp hs hT hf
    · by_cases e1 : s.1 = wNot
      · exact cond_not S K f HC s w e1 hp hs hT (by omega)
      · by_cases e2 : s.1 = [40]
        · exact cond_par S K f HC s w e2 hp hs hT (by omega)
        · exact cond_cmp S K f s w e1 e2 hp hs hT
end Go.Proofs.YtonmpealebggoaaGreatDoor
namespace Go.Proofs.YtonmpealebggoaaGreatDoor
open Go.RowKit Pr
theorem rec_tmps (x y z : Value) : (#[x, y, z] ++ Array.replicate (Tryz.f24.ntmps - (#[x, y, z] : Array Value).size) undef : Array Value) = #[x, y, z, undef, undef, undef, undef, undef, undef, undef, undef, undef, undef] := rfl
set_option maxRecDepth 100000 in
set_option maxHeartbeats 4000000 in
theorem rec_idle (a b c : Addr) (w : World) :
    CallsD Tryz.prog 24 #[.pointer (some a), .pointer (some b), .pointer (some c)] .returning w fun e u' w' => e = .returned (.tuple #[]) ∧ u' = .returning ∧ Below w.heap.size w w' := by
  have hta : ∀ W, (Instr.typeAssert .nilIface 20 61 true).run Tryz.prog W = .ok (.tuple #[.agg #[.int .i64 0], .bool false]) W := fun W => by kernel_rfl
  refine callsD_of_wpS Tryz.func24 rfl fun c₀ cs hu => ?_
  rw [rec_tmps]
  apply wpS_seq
  apply wpS_region
  simp [wpOpsS, go_sem, recoverD, hu, Exit.thenS, hta]
  refine wpS_of_wp ?_
  go_wp2_with fail
  exact ⟨rfl, .returning, by cases c₀; simp at hu; subst hu; rfl, .tuple #[], by simp [results, Tryz.results24, go_sem], rfl, rfl, (Below.refl _ _).alloc (Nat.le_refl _) _⟩
set_option maxRecDepth 100000 in
set_option maxHeartbeats 4000000 in
theorem rec_fail (a b c : Nat) (p : Nat) (w : World) (va vb vc : Value) (ha : Blk w a 40 #[va]) (hb : Blk w b 3 #[vb]) (hc : Blk w c 32 #[vc]) (hab : a ≠ b) (hac : a ≠ c) (hbc : b ≠ c) :
    CallsD Tryz.prog 24 #[.pointer (some ⟨a, 0, none⟩), .pointer (some ⟨b, 0, none⟩), .pointer (some ⟨c, 0, none⟩)] (.panicking [failV p]) w fun e u' w' => e = .returned (.tuple #[]) ∧ u' = .panicking [{ failV p with recovered := true }] ∧
      Blk w' a 40 #[.slice none 0 0] ∧ Blk w' b 3 #[.int .i64 p] ∧ Blk w' c 32 #[.int .i64 5] ∧ FrS w.heap.size (fun k => k = a ∨ k = b ∨ k = c) w w' := by
  have hta : ∀ W, (Instr.typeAssert (.iface 61 (.agg #[.int .i64 (p : Int)])) 20 61 true).run Tryz.prog W = .ok (.tuple #[.agg #[.int .i64 (p : Int)], .bool true]) W := fun W => by kernel_rfl
  have a0 : w.cell? ⟨a, 0, none⟩ = some va := by simpa using Blk.cell ha 0
  have b0 : w.cell? ⟨b, 0, none⟩ = some vb := by simpa using Blk.cell hb 0
  have c0 : w.cell? ⟨c, 0, none⟩ = some vc := by simpa using Blk.cell hc 0
  have al := ha.lt
  have bl := hb.lt
  have cl := hc.lt
  have fa := Blk.frozen ha 0
  have fb := Blk.frozen hb 0
  have fc := Blk.frozen hc 0
  refine callsD_of_wpS Tryz.func24 rfl fun c₀ cs hu => ?_
  rw [rec_tmps]
  apply wpS_seq
  apply wpS_region
  simp [wpOpsS, go_sem, recoverD, hu, Exit.thenS, failV, hta]
  refine wpS_of_wp ?_
  go_wp2_with fail
  have hx := Blk.new w 61 #[.int .i64 (p : Int)]
  have hf1 : FrS w.heap.size (fun _ => False) w (w.alloc (.cells #[.int .i64 (p : Int)] 61)) := (FrS.refl _ _ _).alloc (Nat.le_refl _) _
  have hs1 : w.heap.size + 1 = (w.alloc (.cells #[.int .i64 (p : Int)] 61)).heap.size := by simp
  have HF1 := Lib.hid hf1
  have HS1 := Lib.hid hs1
  have HX := Lib.hid hx
  have HA := Lib.hid (hf1.blk ha al (fun h => h))
  have HB := Lib.hid (hf1.blk hb bl (fun h => h))
  have HC := Lib.hid (hf1.blk hc cl (fun h => h))
  clear hx hf1 hs1 ha hb hc a0 b0 c0 fa fb fc
  generalize w.alloc (.cells #[.int .i64 (p : Int)] 61) = w1 at *
  have hs1 := HS1.out
  have a0 : w1.cell? ⟨a, 0, none⟩ = some va := by simpa using Blk.cell HA.out 0
  have b0 : w1.cell? ⟨b, 0, none⟩ = some vb := by simpa using Blk.cell HB.out 0
  have c0 : w1.cell? ⟨c, 0, none⟩ = some vc := by simpa using Blk.cell HC.out 0
  have x0 : w1.cell? ⟨w.heap.size, 0, none⟩ = some (.int .i64 (p : Int)) := by simpa using Blk.cell HX.out 0
  have fa := Blk.frozen HA.out 0
  have fb := Blk.frozen HB.out 0
  have fc := Blk.frozen HC.out 0
  have na : a ≠ w.heap.size := by omega
  have nb : b ≠ w.heap.size := by omega
  have nc : c ≠ w.heap.size := by omega
  have al1 : a < w1.heap.size := by omega
  have bl1 : b < w1.heap.size := by omega
  have cl1 : c < w1.heap.size := by omega
  go_region
  go_wp2_with fail
  have hA2 := Blk.put HA.out 0 (.slice none 0 0)
  have hFa := FrS.put (p := ⟨a, 0, none⟩) (FrS.refl w1.heap.size (fun k => k = a ∨ k = b ∨ k = c) w1) (.inr (.inl rfl)) (.slice none 0 0)
  refine ⟨rfl, .panicking [{ failV p with recovered := true }], rfl, .tuple #[], by simp [results, Tryz.results24, go_sem], rfl, rfl, ?_, ?_, ?_, ?_⟩
  · exact (Blk.far (Blk.far (by simpa using hA2) (p := ⟨b, 0, none⟩) hab (.int .i64 (p : Int))) (p := ⟨c, 0, none⟩) hac (.int .i64 5)).drew
  · have h1 : Blk _ b 3 #[vb] := HB.out.far (p := ⟨a, 0, none⟩) (Ne.symm hab) (.slice none 0 0)
    have h2 := h1.put 0 (.int .i64 (p : Int))
    exact (Blk.far (by simpa using h2) (p := ⟨c, 0, none⟩) hbc (.int .i64 5)).drew
  · have h1 : Blk _ c 32 #[vc] := (HC.out.far (p := ⟨a, 0, none⟩) (Ne.symm hac) (.slice none 0 0)).far (p := ⟨b, 0, none⟩) (Ne.symm hbc) (.int .i64 (p : Int))
    have h2 := h1.put 0 (.int .i64 5)
    exact Blk.drew (by simpa using h2)
  · have h3 := (hFa.put (p := ⟨b, 0, none⟩) (.inr (.inr (.inl rfl))) (.int .i64 (p : Int))).put (p := ⟨c, 0, none⟩) (.inr (.inr (.inr rfl))) (.int .i64 5)
    exact (HF1.out.weak (Nat.le_refl _) fun _ _ h => h.elim).trans (h3.drew.weak (by omega) fun _ _ h => h)
end Go.Proofs.YtonmpealebggoaaGreatDoor
namespace Go.Proofs.YtonmpealebggoaaGreatDoor
open Go.RowKit Pr
def ParsePost (S : ByteArray) (r : Option (List Rl)) (w : World) (e : Ending) (w' : World) : Prop :=
  Below w.heap.size w w' ∧ match r with
    | some l => (checkE l = 0 ∧ ∃ v : Value, RlsV (fun k => w.heap.size ≤ k) w' v l ∧ e = .returned (.tuple #[v, .int .i64 0, .int .i64 0])) ∨ (checkE l ≠ 0 ∧ e = .returned (.tuple #[.slice none 0 0, .int .i64 0, .int .i64 (checkE l)]))
    | none => ∃ a : Nat, a ≤ S.size ∧ e = .returned (.tuple #[.slice none 0 0, .int .i64 (a : Int), .int .i64 5])
/-- The result's blocks of a call of Parse. -/
structure ParW (w wx : World) (v : Value) : Prop where
  b0 : Blk wx w.heap.size 40 #[v]
  b1 : Blk wx (w.heap.size + 1) 3 #[.int .i64 0]
  b2 : Blk wx (w.heap.size + 1 + 1) 32 #[.int .i64 0]
  bl : Below w.heap.size w wx
theorem ParW.lt {w wx : World} {v : Value} (h : ParW w wx v) : w.heap.size + 2 < wx.heap.size := h.b2.lt
theorem ParW.fr {w wx wy : World} {v : Value} {R : Nat} (h : ParW w wx v) (hf : FrS R (fun k => k = w.heap.size + 3) wx wy) (hR : w.heap.size + 3 ≤ R) : ParW w wy v :=
  ⟨hf.blk h.b0 (by omega) (by omega), hf.blk h.b1 (by omega) (by omega), hf.blk h.b2 (by omega) (by omega), h.bl.trans (hf.below (by omega) fun k e => by omega)⟩
theorem par_panic (S : ByteArray) (w w1 : World) (v : Value) (x : Nat) (hx : x ≤ S.size) (h : ParW w w1 v) (R : Option (List Rl)) (hR : R = none) (tm : Array Value) (h2 : tm[2]? = some (.pointer (some ⟨w.heap.size, 0, none⟩))) (h3 : tm[3]? = some (.pointer (some ⟨w.heap.size + 1, 0, none⟩))) (h4 : tm[4]? = some (.pointer (some ⟨w.heap.size + 1 + 1, 0, none⟩))) :
    bodyPostD Tryz.prog Tryz.f11 (ParsePost S R w) (Exit.panic [failV x]) { tmps := tm, defers := [{ target := Target.fn (Fn.func 24) #[.pointer (some ⟨w.heap.size, 0, none⟩), .pointer (some ⟨w.heap.size + 1, 0, none⟩), .pointer (some ⟨w.heap.size + 1 + 1, 0, none⟩)], args := #[] }] } w1 := by
  refine leaves_cons (f := 24) (args := #[.pointer (some ⟨w.heap.size, 0, none⟩), .pointer (some ⟨w.heap.size + 1, 0, none⟩), .pointer (some ⟨w.heap.size + 1 + 1, 0, none⟩)]) (by simp) (by simp [go_sem]) ?_
  refine (rec_fail _ _ _ x w1 v _ _ h.b0 h.b1 h.b2 (by omega) (by omega) (by omega)).mono ?_
  rintro e u' w2 ⟨rfl, rfl, hA, hB, hC, hf⟩
  have hl : Below w.heap.size w w2 := h.bl.trans (hf.below h.bl.size fun k e => by omega)
  have a0 : w2.cell? ⟨w.heap.size, 0, none⟩ = some (.slice none 0 0) := by simpa using Blk.cell hA 0
  have b0 : w2.cell? ⟨w.heap.size + 1, 0, none⟩ = some (.int .i64 x) := by simpa using Blk.cell hB 0
  have c0 : w2.cell? ⟨w.heap.size + 1 + 1, 0, none⟩ = some (.int .i64 5) := by simpa using Blk.cell hC 0
  simp [Leaves, settle, results, Tryz.results11, go_sem, h2, h3, h4, a0, b0, c0]
  subst hR
  exact ⟨hl, x, hx, rfl⟩
theorem par_ret (S : ByteArray) (w w1 : World) (v : Value) (c : Int) (hb0 : Blk w1 w.heap.size 40 #[v]) (hb1 : Blk w1 (w.heap.size + 1) 3 #[.int .i64 0]) (hb2 : Blk w1 (w.heap.size + 1 + 1) 32 #[.int .i64 c]) (R : Option (List Rl))
    (hp : ∀ w2, Below w1.heap.size w1 w2 → ParsePost S R w (.returned (.tuple #[v, .int .i64 0, .int .i64 c])) w2) (tm : Array Value) (h2 : tm[2]? = some (.pointer (some ⟨w.heap.size, 0, none⟩))) (h3 : tm[3]? = some (.pointer (some ⟨w.heap.size + 1, 0, none⟩))) (h4 : tm[4]? = some (.pointer (some ⟨w.heap.size + 1 + 1, 0, none⟩))) :
    bodyPostD Tryz.prog Tryz.f11 (ParsePost S R w) Exit.ret { tmps := tm, defers := [{ target := Target.fn (Fn.func 24) #[.pointer (some ⟨w.heap.size, 0, none⟩), .pointer (some ⟨w.heap.size + 1, 0, none⟩), .pointer (some ⟨w.heap.size + 1 + 1, 0, none⟩)], args := #[] }] } w1 := by
  refine leaves_cons (f := 24) (args := #[.pointer (some ⟨w.heap.size, 0, none⟩), .pointer (some ⟨w.heap.size + 1, 0, none⟩), .pointer (some ⟨w.heap.size + 1 + 1, 0, none⟩)]) (by simp) (by simp [go_sem]) ?_
  refine (rec_idle _ _ _ w1).mono ?_
  rintro e u' w2 ⟨rfl, rfl, hb⟩
  have a0 : w2.cell? ⟨w.heap.size, 0, none⟩ = some v := by simpa using Blk.cell (hb0.below hb hb0.lt) 0
  have b0 : w2.cell? ⟨w.heap.size + 1, 0, none⟩ = some (.int .i64 0) := by simpa using Blk.cell (hb1.below hb hb1.lt) 0
  have c0 : w2.cell? ⟨w.heap.size + 1 + 1, 0, none⟩ = some (.int .i64 c) := by simpa using Blk.cell (hb2.below hb hb2.lt) 0
  simp [Leaves, settle, results, Tryz.results11, go_sem, h2, h3, h4, a0, b0, c0]
  exact hp w2 hb
theorem eRl : ElemK Tryz.prog 40 27 (.agg #[.string ⟨#[]⟩, .int .i64 0, .slice none 0 0, .int .i64 0, .int .i64 0, .slice none 0 0]) 6 88 := ElemK.mk_ Tryz.underlying40 (by kernel_rfl) rfl
/-- The rules read so far, a row of the call's own. -/
structure PaJ (w wq : World) (L : List (Rl × V5)) (A : Option Addr) (cc : Nat) : Prop where
  pw : ParW w wq (.slice A L.length cc)
  own : wq.ownsRow (w.heap.size + 4) 27 6 (.slice A L.length cc) L.length (rcells L)
  cds : ∀ x ∈ L, CdV (fun b => w.heap.size + 4 ≤ b ∧ some b ≠ (Value.slice A L.length cc).ownBlock) wq x.2 x.1.2
  nm : ∀ x ∈ L, x.1.1.length ≤ 16
theorem PaJ.fr {w wq w' : World} {L : List (Rl × V5)} {A : Option Addr} {cc : Nat} (h : PaJ w wq L A cc) (hf : FrS wq.heap.size (fun k => k = w.heap.size + 3) wq w') : PaJ w w' L A cc := by
  have hl := h.pw.lt
  exact ⟨h.pw.fr hf (by omega), hf.own h.own (fun g hg => by have := own_lt h.own g hg; omega), fun x hx => hf.cdv (h.cds x hx) fun b hb hlt => ⟨hlt, by omega⟩, h.nm⟩
theorem PaJ.rls {w wq : World} {L : List (Rl × V5)} {A : Option Addr} {cc : Nat} (h : PaJ w wq L A cc) : RlsV (fun k => w.heap.size + 4 ≤ k) wq (.slice A L.length cc) (L.map (·.1)) := by
  refine ⟨L.map (·.2), by simp, ?_, fun j h1 h2 => ?_, fun r hr => ?_⟩
  · have e : ((L.map (·.1)).zip (L.map (·.2))) = L := by rw [List.zip_map', show (L.map fun x => (x.1, x.2)) = L by simp]
    rw [List.length_map, e]
    exact (SlM.of_own h.own).mono fun b _ hb => hb.2
  · have hj : j < L.length := by simpa using h1
    have := (h.cds L[j] (List.getElem_mem hj)).mono (Q := fun k => w.heap.size + 4 ≤ k) fun b _ hb => hb.1
    simpa using this
  · obtain ⟨x, hx, rfl⟩ := List.mem_map.1 hr
    exact Nat.le_trans (h.nm x hx) (by decide)
theorem ParW.tab {w wq : World} {v : Value} (h : ParW w wq v) (hT : Tabs w ∧ ErrT w) : TabK (w.heap.size + 3) wq := fun W hW => by
  have hb := h.bl.trans (hW.mono (by omega))
  exact ⟨hT.1.later hb, hT.2.later hb⟩
/-- One more rule appended. -/
theorem PaJ.push {w w9 w11 : World} {L : List (Rl × V5)} {A A11 : Option Addr} {cc c11 B : Nat} {r : Rl} {v : V5} {o : Obj} (h : PaJ w w9 L A cc) (hown : w11.ownsRow (w.heap.size + 4) 27 6 (.slice A11 (L.length + 1) c11) (L.length + 1) (rcells L ++ rcell (r, v)))
    (hg : (w9.alloc o).grownBy w11 (Value.slice A L.length cc).ownBlock) (hk : (Value.slice A11 (L.length + 1) c11).ownBlock = (Value.slice A L.length cc).ownBlock ∨ (Value.slice A11 (L.length + 1) c11).ownBlock = some (w9.alloc o).heap.size)
    (hv : CdV (fun b => B ≤ b) w9 v r.2) (hB : w.heap.size + 4 ≤ B) (hBo : ∀ g, (Value.slice A L.length cc).ownBlock = some g → g < B) (hn : r.1.length ≤ 16) :
    PaJ w (w11.setCell ⟨w.heap.size, 0, none⟩ (.slice A11 (L.length + 1) c11)) (L ++ [(r, v)]) A11 c11 := by
  have hl := h.pw.lt
  have hlen : (L ++ [(r, v)]).length = L.length + 1 := by simp
  have hbg : ∀ g, (Value.slice A L.length cc).ownBlock = some g → w.heap.size + 4 ≤ g ∧ g < w9.heap.size := own_lt h.own
  have hga : FrS w9.heap.size (fun k => w.heap.size + 4 ≤ k ∧ some k = (Value.slice A L.length cc).ownBlock ∨ k = w.heap.size) w9 (w11.setCell ⟨w.heap.size, 0, none⟩ (.slice A11 (L.length + 1) c11)) :=
    (((FrS.refl _ _ _).alloc (Nat.le_refl _) o).grownO hg (by simp) fun k hk => .inr (.inl ⟨(hbg k hk).1, hk.symm⟩)).put (p := ⟨w.heap.size, 0, none⟩) (.inr (.inr rfl)) _
  have hpre : FrS w9.heap.size (fun k => w.heap.size + 4 ≤ k ∧ some k = (Value.slice A L.length cc).ownBlock) w9 w11 := ((FrS.refl _ _ _).alloc (Nat.le_refl _) o).grownO hg (by simp) fun k hk => .inr ⟨(hbg k hk).1, hk.symm⟩
  have hnew : ∀ b, b < w9.heap.size → some b ≠ (Value.slice A L.length cc).ownBlock → some b ≠ (Value.slice A11 (L.length + 1) c11).ownBlock := fun b hb hne e => by
    rcases hk with e2 | e2
    · exact hne (e.trans e2)
    · rw [e2] at e; injection e with e; simp at e; omega
  refine ⟨?_, ?_, fun x hx => ?_, fun x hx => ?_⟩
  · rw [hlen]
    refine ⟨?_, hga.blk h.pw.b1 (by omega) (by omega), hga.blk h.pw.b2 (by omega) (by omega), h.pw.bl.trans (hga.below h.pw.bl.size fun k e => by omega)⟩
    have := Blk.put (hpre.blk h.pw.b0 (by omega) (by omega)) 0 (.slice A11 (L.length + 1) c11)
    simpa using this
  · rw [hlen, rcells_snoc]
    exact own_setCell hown (.inl (by show w.heap.size < _; omega)) _
  · rw [hlen]
    have key : ∀ (u : V5) (c : Cd), CdV (fun b => w.heap.size + 4 ≤ b ∧ some b ≠ (Value.slice A L.length cc).ownBlock) w9 u c → CdV (fun b => w.heap.size + 4 ≤ b ∧ some b ≠ (Value.slice A11 (L.length + 1) c11).ownBlock) (w11.setCell ⟨w.heap.size, 0, none⟩ (.slice A11 (L.length + 1) c11)) u c := fun u c hu =>
      (hga.cdv (hu.mono (Q := fun b => (w.heap.size + 4 ≤ b ∧ some b ≠ (Value.slice A L.length cc).ownBlock) ∧ some b ≠ (Value.slice A11 (L.length + 1) c11).ownBlock) fun b hb hP => ⟨hP, hnew b hb hP.2⟩) (fun b hb hlt => ⟨hlt, fun e => e.elim (fun e => hb.1.2 e.2) fun e => by have := hb.1.1; omega⟩)).mono fun b _ hb => ⟨hb.1.1, hb.2⟩
    rcases List.mem_append.1 hx with hx | hx
    · exact key _ _ (h.cds x hx)
    · obtain rfl : x = (r, v) := by simpa using hx
      exact key _ _ (hv.mono fun b _ hb => ⟨by omega, fun e => by have := hBo b e.symm; omega⟩)
  · rcases List.mem_append.1 hx with hx | hx
    · exact h.nm x hx
    · obtain rfl : x = (r, v) := by simpa using hx
      exact hn
end Go.Proofs.YtonmpealebggoaaGreatDoor
