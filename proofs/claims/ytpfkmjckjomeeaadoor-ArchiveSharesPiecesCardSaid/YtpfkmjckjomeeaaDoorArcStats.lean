/- The walk of Stats. -/
import Derived.Test.YtpfkmjckjomeeaaDoorArcGet
import Derived.Test.YtpfkmjckjomeeaaDoorArcRng
namespace Go.Proofs.YtpfkmjckjomeeaaDoor
open Go.RowKit Arc
open Go.Maps (Keyed)
namespace Arc
def Pcs.cnt (p : Pcs) : Nat := (p.L.map fun k => (p.f k).length).sum
def sizes (l : List ByteArray) : Nat := (l.map ByteArray.size).sum
def Pcs.sto (p : Pcs) : Nat := (p.L.map fun k => sizes (p.f k)).sum
def St.bytes (S : St) : Nat := (S.nm.map fun x => x.2.size).sum
end Arc
theorem sizes_succ (l : List ByteArray) (j : Nat) (h : j < l.length) : Arc.sizes (l.take (j + 1)) = Arc.sizes (l.take j) + l[j].size := by
  rw [List.take_succ_eq_append_getElem h]; unfold Arc.sizes; rw [List.map_append, List.sum_append]; simp
theorem sizes_take_le (l : List ByteArray) (j : Nat) : Arc.sizes (l.take j) ≤ Arc.sizes l := by
  have : Arc.sizes l = Arc.sizes (l.take j) + Arc.sizes (l.drop j) := by
    conv => lhs; rw [← List.take_append_drop j l]
    unfold Arc.sizes; rw [List.map_append, List.sum_append]
  omega
def intZ : Option Value → Nat
  | some (.int _ z) => z.toNat
  | _ => 0
def szV : Value → Nat
  | .agg cs => intZ cs[2]?
  | _ => 0
theorem AM.szV {B A : Nat} {S : St} {V : AV} {w : World} (h : AM B A S V w) : (S.order.map fun n => szV (V.ev n)).sum = S.bytes := by
  unfold St.order St.bytes
  rw [List.map_map]
  congr 1
  refine List.map_congr_left fun x hx => ?_
  obtain ⟨vk, va, e, _⟩ := h.en x hx
  show Proofs.YtpfkmjckjomeeaaDoor.szV (V.ev x.1) = x.2.size
  rw [e]
  simp [Proofs.YtpfkmjckjomeeaaDoor.szV, intZ]
def statsV (S : St) : Value := .agg #[.int .i64 (S.nm.length : Int), .int .i64 (S.bytes : Int), .int .i64 (S.p.cnt : Int), .int .i64 (S.p.sto : Int)]
def StatsOk (S : St) (w : World) (e : Ending) (w' : World) : Prop := e = .returned (statsV S) ∧ Below w.heap.size w w'
set_option maxRecDepth 100000 in
set_option maxHeartbeats 8000000 in
theorem stats_any {B A : Nat} {S : St} {V : AV} (w : World) (h : AM B A S V w) (hS : S.order.Nodup) (h1 : S.bytes ≤ 1000000000) (h2 : S.p.cnt ≤ 1000000000) (h3 : S.p.sto ≤ 1000000000) (h4 : S.nm.length ≤ 1000000) :
    Calls Tryd.prog 13 #[.pointer (some ⟨A, 0, none⟩)] w (StatsOk S w) := by
  have HP : Hid (∀ e w', StatsOk S w e w' = (e = .returned (.agg #[.int .i64 (S.nm.length : Int), .int .i64 (S.bytes : Int), .int .i64 (S.p.cnt : Int), .int .i64 (S.p.sto : Int)]) ∧ Below w.heap.size w w')) := fun _ _ => rfl
  generalize StatsOk S w = Post at *
  have HA := Lib.hid h
  have HSz := Lib.hid h.szV
  have HSN := Lib.hid hS
  have cA := h.ba.cell 1
  simp only [List.getElem?_toArray, List.getElem?_cons_zero, List.getElem?_cons_succ] at cA
  have lA := h.ba.lt
  have lN := h.mn.lt
  have HMn : Hid (∀ w', Below w.heap.size w w' → MapV w' Tryd.prog 9 V.N V.n (FA S.order kS V.ev)) := fun w' hb => (HA.out.later hb).mn
  obtain ⟨R, hR⟩ : ∃ R, w.heap.size = R := ⟨_, rfl⟩
  obtain ⟨w1, hw1⟩ : ∃ w1, (w.alloc (Obj.cells #[.int .i64 0, .int .i64 0, .int .i64 0, .int .i64 0] 37)).alloc (Obj.cells #[.int .i64 0, .int .i64 0, .int .i64 0, .int .i64 0] 37) = w1 := ⟨_, rfl⟩
  have hb1 : Below R w w1 := by rw [← hR, ← hw1]; exact ((Below.refl _ _).alloc (Nat.le_refl _) _).alloc (by simp) _
  have bR : Blk w1 R 37 #[.int .i64 0, .int .i64 0, .int .i64 0, .int .i64 0] := by rw [← hR, ← hw1]; exact (Blk.new _ _ _).alloc _
  have bS : Blk w1 (R + 1) 37 #[.int .i64 0, .int .i64 0, .int .i64 0, .int .i64 0] := by
    have := Blk.new (w.alloc (Obj.cells #[.int .i64 0, .int .i64 0, .int .i64 0, .int .i64 0] 37)) 37 #[.int .i64 0, .int .i64 0, .int .i64 0, .int .i64 0]
    rw [World.size_alloc, hR, hw1] at this; exact this
  have hs1 : w1.heap.size = R + 2 := by rw [← hw1, ← hR]; simp
  obtain ⟨w2, cnt2, hrun, rg2, g2, s2⟩ := RgV.start (HMn.out w1 (by rw [hR]; exact hb1)) lawS Tryd.underlying56 kS_key kS_inj hS
  rw [← hw1] at hrun
  have hz1 : ((w.alloc (Obj.cells #[.int .i64 0, .int .i64 0, .int .i64 0, .int .i64 0] 37)).alloc (Obj.cells #[.int .i64 0, .int .i64 0, .int .i64 0, .int .i64 0] 37)).heap.size = w.heap.size + 2 := by simp
  rw [hz1] at hrun
  rw [hs1] at rg2 s2
  have HB2 : Hid (Below R w w2) := hb1.trans ⟨g2.os, g2.tape, g2.output, g2.size, fun b hb => g2.block b (by omega) (by simp)⟩
  have BR2 := Lib.hid (bR.grown g2 (by simp))
  have BS2 := Lib.hid (bS.grown g2 (by simp))
  have RG2 := Lib.hid rg2
  have HR := Lib.hid hR
  clear h hS rg2 bR bS hb1 hw1 g2 hz1 hs1
  have hszr : w.heap.size = R := HR.out
  clear hR
  go_enter Tryd.func13, Tryd.ntmps13
  clear hszr
  go_wp2
  rw [HR.out]
  have lN' : V.N < R := by have := HR.out; omega
  have lA' : A < R := by have := HR.out; omega
  clear lA lN cA hrun s2
  go_loopw [15] (fun _ wr => ∃ (rem : List ByteArray) (cnt c s : Nat), c + rem.length = S.order.length ∧ s + (rem.map fun n => szV (V.ev n)).sum = S.bytes ∧ (∀ n ∈ rem, n ∈ S.order) ∧ RgV wr Tryd.prog 9 V.N (R + 2) V.n S.order kS V.ev rem cnt ∧ Blk wr R 37 #[.int .i64 0, .int .i64 0, .int .i64 0, .int .i64 0] ∧ Blk wr (R + 1) 37 #[.int .i64 (c : Int), .int .i64 (s : Int), .int .i64 0, .int .i64 0] ∧ Below R w wr) (fun _ wr => wr.rangeLeft V.N (R + 2))
  case atStart => exact ⟨S.order, cnt2, 0, 0, by omega, by rw [HSz.out]; omega, fun n h => h, RG2.out, BR2.out, BS2.out, HB2.out⟩
  case round =>
    obtain ⟨rem, cnt, c, s, e1, e2, e3, rg, bR, bS, hb⟩ := hrel
    have HB := Lib.hid hb
    have HL := Lib.hid rg.left_eq
    rcases rg.next lawS kS_key kS_inj 0 with ⟨h0, hnx⟩ | ⟨pre, a, post, key, w3, cnt3, hrem, hnx, rg3, hcnt, g3, s3, hen⟩
    · subst h0
      obtain rfl : c = S.order.length := by simpa using e1
      obtain rfl : s = S.bytes := by simpa using e2
      have hol : S.order.length = S.nm.length := by simp [St.order]
      have HOl := Lib.hid hol
      clear e1 e2 e3 rg
      have cP : wr.cell? ⟨A, 0, none⟩ = some (.map (some V.P)) := (HA.out.later (by rw [HR.out]; exact hb)).ba.cell 0
      have hmp : MapV wr Tryd.prog 63 V.P V.n (FA S.p.L kU V.vf) := (HA.out.later (by rw [HR.out]; exact hb)).mp
      have lP : V.P < R := by have := HA.out.mp.lt; have := HR.out; omega
      have hRw := hb.size
      rw [HR.out] at hRw
      generalize S.order.length = nn at *
      obtain ⟨w4, cnt4, hrun4, rg4, g4, s4⟩ := RgV.start hmp lawU Tryd.underlying55 kU_key kU_inj HA.out.ok.nd
      obtain ⟨r2, hr2⟩ : ∃ r2, wr.heap.size = r2 := ⟨_, rfl⟩
      have HR2 := Lib.hid hr2
      rw [hr2] at rg4 hrun4
      have lS0 := bS.lt
      have hr2b : R + 2 ≤ r2 := by omega
      have RG4 := Lib.hid rg4
      have BR4 := Lib.hid (bR.grown g4 (by simp))
      have BS4 := Lib.hid (bS.grown g4 (by simp))
      have HB4 : Hid (Below R w w4) := hb.trans ⟨g4.os, g4.tape, g4.output, g4.size, fun b hb => g4.block b (by omega) (by simp)⟩
      clear rg4 g4 s4 bR bS hb hmp hol hr2 hRw lS0
      go_wp2
      clear hnx hrun4 cP
      go_loopw [34] (fun _ wr => ∃ (rem : List (BitVec 32)) (cnt c s : Nat), c + (rem.map fun k => (S.p.f k).length).sum = S.p.cnt ∧ s + (rem.map fun k => sizes (S.p.f k)).sum = S.p.sto ∧ RgV wr Tryd.prog 63 V.P r2 V.n S.p.L kU V.vf rem cnt ∧ Blk wr R 37 #[.int .i64 0, .int .i64 0, .int .i64 0, .int .i64 0] ∧ Blk wr (R + 1) 37 #[.int .i64 (nn : Int), .int .i64 (S.bytes : Int), .int .i64 (c : Int), .int .i64 (s : Int)] ∧ Below R w wr) (fun _ wr => wr.rangeLeft V.P r2)
      case atStart => exact ⟨S.p.L, cnt4, 0, 0, by unfold Pcs.cnt; omega, by unfold Pcs.sto; omega, RG4.out, BR4.out, BS4.out, HB4.out⟩
      case round =>
        obtain ⟨rem, cnt5, c, s, e1, e2, rg, bR, bS, hb⟩ := hrel
        have HL5 := Lib.hid rg.left_eq
        rcases rg.next lawU kU_key kU_inj 0 with ⟨h0, hnx⟩ | ⟨pre, a, post, key, w5, cnt6, hrem, hnx, rg5, hcnt, g5, s5, hen⟩
        · subst h0
          obtain rfl : c = S.p.cnt := by simpa using e1
          obtain rfl : s = S.p.sto := by simpa using e2
          have HB := Lib.hid hb
          have fR := bR.frozen 0
          have r0 := bR.cell 0
          have r1 := bR.cell 1
          have r3 := bR.cell 2
          have r4 := bR.cell 3
          have q0 := bS.cell 0
          have q1 := bS.cell 1
          have q2 := bS.cell 2
          have q3 := bS.cell 3
          have f1 := bR.frozen 1
          have f2 := bR.frozen 2
          have f3 := bR.frozen 3
          have lR := bR.lt
          have lS := bS.lt
          simp only [List.getElem?_toArray, List.getElem?_cons_zero, List.getElem?_cons_succ] at r0 r1 r3 r4 q0 q1 q2 q3
          clear e1 e2 rg bR bS hb
          go_wp2
          refine bodyPost_ret (v := .agg #[.int .i64 (nn : Int), .int .i64 (S.bytes : Int), .int .i64 (S.p.cnt : Int), .int .i64 (S.p.sto : Int)]) (by simp [results, Tryd.results13, go_sem, *]) rfl ?_
          rw [HP.out, ← HOl.out]
          refine ⟨rfl, ?_⟩
          rw [HR.out]
          exact (((HB.out.setCell (Nat.le_refl R) _).setCell (Nat.le_refl R) _).setCell (Nat.le_refl R) _).setCell (Nat.le_refl R) _
        · subst hrem
          obtain ⟨Av, cv, hvf⟩ := own_form (HA.out.of a)
          obtain ⟨n, hn⟩ : ∃ n, (S.p.f a).length = n := ⟨_, rfl⟩
          have hcn := HA.out.cn a
          rw [sum_parted, hn] at e1
          rw [sum_parted] at e2
          rw [hvf, hn] at hnx hen
          obtain ⟨sj, hsj⟩ : ∃ sj : Nat → Nat, ∀ j, sizes ((S.p.f a).take j) = sj j := ⟨_, fun _ => rfl⟩
          have HCl : Hid (∀ j, j < n → ∃ g p, Av = some ⟨g, 0, none⟩ ∧ g < R ∧ w.cell? ⟨g, j, none⟩ = some (.string p) ∧ sj (j + 1) = sj j + p.size ∧ sj (j + 1) ≤ sizes (S.p.f a)) := fun j hj => by
            rw [← hsj, ← hsj]
            have hof := HA.out.of a
            rw [hvf] at hof
            obtain ⟨g, cap, e, _, l, _, _, hc⟩ := own_cells hof (by omega)
            injection e with e
            refine ⟨g, (S.p.f a)[j], e, by have := HR.out; omega, hc j _ ?_, ?_, ?_⟩
            · unfold strs; rw [List.getElem?_map, List.getElem?_eq_getElem (by omega)]; rfl
            · exact sizes_succ _ _ (by omega)
            · exact sizes_take_le _ _
          have HFull : Hid (sj n = sizes (S.p.f a)) := by rw [← hsj, ← hn, List.take_length]; exact rfl
          have HE1 := Lib.hid e1
          have HE2 := Lib.hid e2
          have hc9 : c + n ≤ 1000000000 := by omega
          have hs9 : s + sizes (S.p.f a) ≤ 1000000000 := by omega
          have BR5 := Lib.hid (bR.grown g5 (by simp; omega))
          have BS5 := Lib.hid (bS.grown g5 (by simp; omega))
          have RG5 := Lib.hid rg5
          have hsz5 : R ≤ wr.heap.size := by have := hb.size; rw [HR.out] at this; exact this
          have HT0 : Hid (sj 0 = 0) := by rw [← hsj]; rfl
          have HB5 : Hid (Below R w w5) := hb.trans ⟨g5.os, g5.tape, g5.output, g5.size, fun b hb => g5.block b (by omega) (by simp; omega)⟩
          clear rg5 g5 s5 bR bS hb rg e1 e2 hn hvf hsj
          generalize sizes (S.p.f a) = za at *
          go_wp2
          go_loopw [40] (fun v40 wr => ∃ j cc ss : Nat, j ≤ n ∧ v40 = .int .i64 (j : Int) ∧ cc = c + j ∧ ss = s + sj j ∧ RgV wr Tryd.prog 63 V.P r2 V.n S.p.L kU V.vf (pre ++ post) cnt6 ∧ Blk wr R 37 #[.int .i64 0, .int .i64 0, .int .i64 0, .int .i64 0] ∧ Blk wr (R + 1) 37 #[.int .i64 (nn : Int), .int .i64 (S.bytes : Int), .int .i64 (cc : Int), .int .i64 (ss : Int)] ∧ Below R w wr) (fun v40 _ => n - (intOf v40).toNat)
          case atStart => exact ⟨0, c, s, by omega, rfl, rfl, by rw [HT0.out]; rfl, RG5.out, BR5.out, BS5.out, HB5.out⟩
          case round =>
            obtain ⟨j, cc, ss, hj, rfl, hcc, hss, rg, bR, bS, hb⟩ := hrel
            have RG6 := Lib.hid rg
            have BR6 := Lib.hid bR
            have BS6 := Lib.hid bS
            have HB6 := Lib.hid hb
            by_cases hlt : j < n
            · obtain ⟨g, p, rfl, hg, hc, ht1, ht2⟩ := HCl.out j hlt
              have hss2 : ss + p.size = s + sj (j + 1) := by omega
              have hb1 : ss + p.size ≤ 1000000000 := by omega
              have hb2 : cc + 1 ≤ 1000000000 := by omega
              have HSS := Lib.hid hss2
              have HCC := Lib.hid hcc
              have d1 := (hb.cell (p := ⟨g, j, none⟩) hg).trans hc
              have c2 := bS.cell 2
              have c3 := bS.cell 3
              have f2 := bS.frozen 2
              have f3 := bS.frozen 3
              have lS := bS.lt
              simp only [List.getElem?_toArray, List.getElem?_cons_zero, List.getElem?_cons_succ] at c2 c3
              clear rg bR bS hb hc ht1 ht2 hss hcc hss2
              go_wp2
              refine ⟨⟨j + 1, cc + 1, ss + p.size, by omega, by go_num, by have := HCC.out; omega, HSS.out, ?_, ?_, ?_, ?_⟩, ?_⟩
              · exact (RG6.out.kept (grown_set _ ⟨R + 1, 2, none⟩ _) (by simp; omega) (by simp; omega)).kept (grown_set _ ⟨R + 1, 3, none⟩ _) (by simp; omega) (by simp; omega)
              · exact (BR6.out.far (p := ⟨R + 1, 2, none⟩) (by simp) _).far (p := ⟨R + 1, 3, none⟩) (by simp) _
              · have := (BS6.out.put 2 (.int .i64 ((cc : Int) + 1))).put 3 (.int .i64 ((ss : Int) + (p.size : Int)))
                simpa using this
              · exact (HB6.out.setCell (by show R ≤ R + 1; omega) _).setCell (by show R ≤ R + 1; omega) _
              · simp [intOf]; omega
            · obtain rfl : j = n := by omega
              rw [HFull.out] at hss
              have HSS := Lib.hid hss
              have HCC := Lib.hid hcc
              clear rg bR bS hb hss hcc
              go_wp2
              refine ⟨⟨pre ++ post, cnt6, cc, ss, by have := HE1.out; have := HCC.out; omega, by have := HE2.out; have := HSS.out; omega, RG6.out, BR6.out, BS6.out, HB6.out⟩, ?_⟩
              rw [RG6.out.left_eq, HL5.out]; exact hcnt
    · subst hrem
      have ha : a ∈ S.order := e3 a (by simp)
      obtain ⟨x, hx, hxa⟩ := List.mem_map.1 ha
      obtain ⟨vk, va, hev, ok, oa⟩ := HA.out.en x hx
      rw [hxa] at hev
      obtain ⟨Ak, ck, rfl⟩ := own_form ok
      obtain ⟨Aa, ca, rfl⟩ := own_form oa
      have hsz : szV (V.ev a) = x.2.size := by rw [hev]; simp [szV, intZ]
      rw [sum_parted, hsz] at e2
      have e4 : (pre ++ a :: post).length = (pre ++ post).length + 1 := by simp; omega
      rw [e4] at e1
      rw [hev] at hnx hen
      have E3 : Hid (∀ n ∈ pre ++ post, n ∈ S.order) := fun n hn => e3 n (by rcases List.mem_append.1 hn with h | h <;> simp [h])
      have bS3 := bS.grown g3 (by simp)
      have BR3 := Lib.hid (bR.grown g3 (by simp))
      have BS3 := Lib.hid bS3
      have c0 := bS3.cell 0
      have c1 := bS3.cell 1
      have f0 := bS3.frozen 0
      have f1 := bS3.frozen 1
      have lS := bS3.lt
      simp only [List.getElem?_toArray, List.getElem?_cons_zero, List.getElem?_cons_succ] at c0 c1
      have RG3 := Lib.hid rg3
      have HB3 : Hid (Below R w w3) := hb.trans ⟨g3.os, g3.tape, g3.output, g3.size, fun b hb2 => g3.block b (by omega) (by simp; omega)⟩
      obtain ⟨T, hT⟩ : ∃ T, (List.map (fun n => szV (V.ev n)) (pre ++ post)).sum = T := ⟨_, rfl⟩
      rw [hT] at e2
      have HT := Lib.hid hT
      have hol : S.order.length = S.nm.length := by simp [St.order]
      have hcn : c ≤ 1000000 := by omega
      clear hol
      have G3 := Lib.hid g3
      clear e3 e4 bS3 rg3 bR bS hb rg hT hx ha hsz hev ok oa g3 hxa
      have hbd : s + x.2.size ≤ 1000000000 := by omega
      have E1 := Lib.hid e1
      have E2 := Lib.hid e2
      clear e1 e2 s3
      generalize x.2.size = z at *
      generalize x.2.ks.length = q at *
      have hlz : wr.rangeLeft V.N (R + 2) = cnt := HL.out
      have HLz := Lib.hid hlz
      clear hlz
      go_wp2
      have rgn : RgV (((w3.setCell ⟨R + 1, 0, none⟩ (.int .i64 ((c : Int) + 1))).setCell ⟨R + 1, 1, none⟩ (.int .i64 ((s : Int) + (z : Int)))).alloc (Obj.cells #[.slice Ak q ck, .slice Aa q ca, .int .i64 (z : Int)] 62)) Tryd.prog 9 V.N (R + 2) V.n S.order kS V.ev (pre ++ post) cnt3 :=
        ((RG3.out.kept (grown_set _ ⟨R + 1, 0, none⟩ _) (by simp; omega) (by simp)).kept (grown_set _ ⟨R + 1, 1, none⟩ _) (by simp; omega) (by simp)).kept (World.grownBy_alloc _ _ none) (by simp) (by simp)
      refine ⟨⟨pre ++ post, cnt3, c + 1, s + z, by have := E1.out; omega, by have := E2.out; rw [HT.out]; omega, E3.out, rgn, ?_, ?_, ?_⟩, ?_⟩
      · exact ((BR3.out.far (p := ⟨R + 1, 0, none⟩) (by simp) _).far (p := ⟨R + 1, 1, none⟩) (by simp) _).alloc _
      · have := ((BS3.out.put 0 (.int .i64 ((c : Int) + 1))).put 1 (.int .i64 ((s : Int) + (z : Int)))).alloc (Obj.cells #[.slice Ak q ck, .slice Aa q ca, .int .i64 (z : Int)] 62)
        simpa using this
      · exact ((HB3.out.setCell (by show R ≤ R + 1; omega) _).setCell (by show R ≤ R + 1; omega) _).alloc (by have := HB3.out.size; have := HR.out; simp; omega) _
      · rw [rgn.left_eq, HLz.out]; exact hcnt
end Go.Proofs.YtpfkmjckjomeeaaDoor
