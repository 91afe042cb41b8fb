/- The walk of the closure that marks a glyph and its parts. -/
import Derived.Test.YtefkglmdkjkbiaaDoorFntSub2
import Derived.Test.YtefkglmdkjkbiaaDoorFntNst
import Derived.Test.YtefkglmdkjkbiaaDoorFntGl2
namespace Go.Proofs.YtefkglmdkjkbiaaDoor
open Go.RowKit Fnt
def bools (K : List Bool) : List Value := K.map .bool
theorem bools_set (K : List Bool) (g : Nat) : (bools K).set g (.bool true) = bools (K.set g true) := by unfold bools; rw [List.map_set]
theorem need_next {F : Font} {f : Nat} (ps : List Part) (K : List Bool) (i : Nat) (hi : i < ps.length) :
    (ps.take (i + 1)).foldl (fun K p => need F f p.g.toNat K) K = need F f (ps.getD i default).g.toNat ((ps.take i).foldl (fun K p => need F f p.g.toNat K) K) := by
  rw [take_next ps i default hi, List.foldl_append]; rfl
/-- What the closure finds: its three boxes, and the glyphs. -/
structure NdIn (F : Font) (ok : Nat → Prop) (kb bk bf bn : Nat) (vg : Value) (w : World) : Prop where
  k : w.cell? ⟨bk, 0, none⟩ = some (.slice (some ⟨kb, 0, none⟩) F.gs.length F.gs.length)
  f : w.cell? ⟨bf, 1, none⟩ = some vg
  n : w.cell? ⟨bn, 0, none⟩ = some (.func (.func 45) #[] #[.pointer (some ⟨bk, 0, none⟩), .pointer (some ⟨bf, 0, none⟩), .pointer (some ⟨bn, 0, none⟩)])
  kl : bk < w.heap.size
  fl : bf < w.heap.size
  nl : bn < w.heap.size
  gs : Gls w ok vg F.gs
theorem NdIn.frx {F : Font} {ok : Nat → Prop} {kb bk bf bn R : Nat} {vg : Value} {w w' : World} (h : NdIn F ok kb bk bf bn vg w) (hf : FrX R kb w w') (hR : w.heap.size ≤ R) (h1 : bk ≠ kb) (h2 : bf ≠ kb) (h3 : bn ≠ kb) (h4 : ¬ ok kb) : NdIn F ok kb bk bf bn vg w' :=
  ⟨(hf.cell (Nat.lt_of_lt_of_le h.kl hR) h1 0).trans h.k, (hf.cell (Nat.lt_of_lt_of_le h.fl hR) h2 1).trans h.f, (hf.cell (Nat.lt_of_lt_of_le h.nl hR) h3 0).trans h.n,
    Nat.lt_of_lt_of_le h.kl hf.size, Nat.lt_of_lt_of_le h.fl hf.size, Nat.lt_of_lt_of_le h.nl hf.size, h.gs.keep hf.size fun b ho hl => hf.block b (Nat.lt_of_lt_of_le hl hR) fun e => h4 (e ▸ ho)⟩
def NdPost (F : Font) (k g : Nat) (K : List Bool) (kb : Nat) (w : World) (e : Ending) (w' : World) : Prop :=
  e = .returned (.tuple #[]) ∧ Row w' kb (bools (need F k g K)) ∧ FrX w.heap.size kb w w'
set_option maxRecDepth 100000 in
set_option maxHeartbeats 4000000 in
theorem need_any (F : Font) (hF : FOk F) (ok : Nat → Prop) (kb bk bf bn : Nat) (vg : Value) (hob : ¬ ok kb) (h1 : bk ≠ kb) (h2 : bf ≠ kb) (h3 : bn ≠ kb) :
    ∀ (k g : Nat) (K : List Bool) (w : World), NdIn F ok kb bk bf bn vg w → Row w kb (bools K) → K.length = F.gs.length → g < F.gs.length → rk F g < k →
      Calls Tryd.prog 45 #[.int .i64 g, .pointer (some ⟨bk, 0, none⟩), .pointer (some ⟨bf, 0, none⟩), .pointer (some ⟨bn, 0, none⟩)] w (NdPost F k g K kb w) := by
  intro k
  induction k with
  | zero => intro g K w _ _ _ _ h; omega
  | succ k ih =>
    intro g K w hin hm hL hg hrk
    have HIn : Hid (∀ w', FrX w.heap.size kb w w' → NdIn F ok kb bk bf bn vg w') := fun w' h => hin.frx h (Nat.le_refl _) h1 h2 h3 hob
    obtain ⟨c8, c2, c9, l8, l2, l9, hgs⟩ := hin
    obtain ⟨bg, og, capg, vs, rfl, hokg, hbg, hg1, hg2, hgc⟩ := Gls.cells hgs (by omega)
    obtain ⟨_, _, p2, _, hps⟩ := hgc g hg
    have hgd : F.gs.getD g default = gl F g := rfl
    rw [hgd] at hps
    have hparts := (rk_facts hF g hg).2
    have hlt := hF.parts g
    have hp4 := (hF.gl g hg).ps
    have HE : Hid (need F (k + 1) g K = (gl F g).ps.foldl (fun K p => need F k p.g.toNat K) (K.set g true)) := rfl
    generalize hvp : (vs g).2 = vp at *
    obtain ⟨Ap, cp, rfl, hq1, hq2⟩ := hps.form
    have HPs := Lib.hid hps
    have HPp := Lib.hid hparts
    have HLt := Lib.hid hlt
    generalize hNN : F.gs.length = N at *
    generalize (gl F g).ps = ps at *
    generalize hnp : ps.length = np at *
    have HNp := Lib.hid hnp
    have f0 := hm.free g (by unfold bools; rw [List.length_map]; omega)
    have c0 : w.cell? ⟨kb, g, none⟩ = some (.bool (K.getD g false)) := hm.cell g _ (by unfold bools; rw [List.getElem?_map, List.getD_eq_getElem?_getD, List.getElem?_eq_getElem (by omega)]; rfl)
    have hm1 := hm.put (k := g) (by unfold bools; rw [List.length_map]; omega) (.bool true)
    rw [bools_set] at hm1
    have hf1 : FrX w.heap.size kb w (w.setCell ⟨kb, g, none⟩ (.bool true)) := FrX.set _ _ _ _ _
    have hob2 : bg ≠ kb := fun e => hob (e ▸ hokg)
    have lkb := hm.lt
    have b2 : bf ≠ kb := h2
    replace c2 := (hf1.cell l2 h2 1).trans c2
    replace p2 := (hf1.cell hbg hob2 _).trans p2
    have HM1 := Lib.hid hm1
    have HF1 := Lib.hid hf1
    have hgN : (g : Int) < (N : Int) := by omega
    have hg0 : 0 ≤ (g : Int) := by omega
    have lbg : bg < (w.setCell ⟨kb, g, none⟩ (.bool true)).heap.size := by simpa [World.setCell] using hbg
    have HLK : Hid ((K.set g true).length = N) := by rw [Hid, List.length_set]; exact hL
    clear hgs hgc hps hparts hlt hnp hvp hm hm1 hf1 c9
    go_enter Tryd.func45, Tryd.ntmps45
    go_wp2
    go_loopw [6, 17] (fun _ vi wq => ∃ i : Nat, i ≤ np ∧ vi = .int .i64 i ∧ Row wq kb (bools ((ps.take i).foldl (fun K p => need F k p.g.toNat K) (K.set g true))) ∧ FrX w.heap.size kb w wq) (fun _ i _ => np - (intOf i).toNat)
    case atStart => exact ⟨0, by omega, rfl, HM1.out, HF1.out⟩
    case round =>
      obtain ⟨i, hi, rfl, hr, hf⟩ := hrel
      have HR := Lib.hid hr
      have HFr := Lib.hid hf
      clear hr hf
      by_cases hlt : i < np
      · obtain ⟨bp, op, capp, ev, hokp, hbp, _, _, hcp⟩ := Pas.cells HPs.out (by rw [HNp.out]; omega)
        injection ev with e1 e2 e3
        subst e1 e3
        clear e2
        obtain ⟨d0, d1, d2⟩ := hcp i (by rw [HNp.out]; exact hlt)
        have hob3 : bp ≠ kb := fun e => hob (e ▸ hokp)
        replace d0 := (HFr.out.cell hbp hob3 _).trans d0
        replace d1 := (HFr.out.cell hbp hob3 _).trans d1
        replace d2 := (HFr.out.cell hbp hob3 _).trans d2
        have lbp : bp < wr.heap.size := Nat.lt_of_lt_of_le hbp HFr.out.size
        have hmem : ps.getD i default ∈ ps := by
          rw [List.getD_eq_getElem?_getD, List.getElem?_eq_getElem (by rw [HNp.out]; exact hlt)]; exact List.getElem_mem _
        obtain ⟨y0, y1⟩ := HLt.out _ hmem
        have y2 := HPp.out _ hmem
        have HNx := Lib.hid (need_next (F := F) (f := k) ps (K.set g true) i (by rw [HNp.out]; exact hlt))
        generalize (ps.getD i default).x = px at *
        generalize (ps.getD i default).y = py at *
        obtain ⟨q, hq⟩ : ∃ q : Nat, (ps.getD i default).g = (q : Int) := ⟨_, (Int.toNat_of_nonneg y0).symm⟩
        rw [hq] at d0 y1 y2
        rw [hq, Int.toNat_natCast] at HNx
        rw [Int.toNat_natCast] at y1 y2
        have HIH := Lib.hid (ih q ((ps.take i).foldl (fun K p => need F k p.g.toNat K) (K.set g true)) (wr.alloc (.cells #[.int .i64 q, .int .i64 px, .int .i64 py] 103)) (HIn.out _ (HFr.out.alloc (Nat.le_refl _) _)) (HR.out.alloc _) (by
          have := (fold_rch (need_rch hF k) (ps.take i) (K.set g true) (fun p hp => by have := (HLt.out p (List.mem_of_mem_take hp)).2; rw [hNN]; exact this) (by rw [hNN]; exact HLK.out)).1
          rw [← hNN]; exact this) y1 (by omega))
        unfold NdPost at HIH
        have HFa := Lib.hid (HFr.out.alloc (Nat.le_refl _) (.cells #[.int .i64 q, .int .i64 px, .int .i64 py] 103))
        have c9 := (HIn.out _ HFr.out).n
        have l9 := (HIn.out _ HFr.out).nl
        clear hcp hmem y0 ih hq
        go_wp2_with fail
        refine HIH.out.mono ?_; rintro e w5 ⟨rfl, hr5, hf5⟩
        have HR5 := Lib.hid hr5
        have HF5 := Lib.hid (HFa.out.trans (hf5.mono (by have := HFr.out.size; simp; omega)))
        clear hr5 hf5
        go_wp2
        go_roundw
        case rel => exact ⟨i + 1, by omega, by go_num, by rw [HNx.out]; exact HR5.out, HF5.out⟩
        case measure => simp [intOf]; omega
      · obtain rfl : i = np := by omega
        have HRe := HR.out
        rw [List.take_of_length_le (by rw [HNp.out]; exact Nat.le_refl _), ← HE.out] at HRe
        have HP : Hid (NdPost F (k + 1) g K kb w (.returned (.tuple #[])) wr) := ⟨rfl, HRe, HFr.out⟩
        generalize NdPost F (k + 1) g K kb w = Q at *
        clear HRe
        go_wp2
        go_end0
        exact HP.out
end Go.Proofs.YtefkglmdkjkbiaaDoor
