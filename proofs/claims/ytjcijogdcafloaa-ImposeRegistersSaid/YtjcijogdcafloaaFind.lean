/- The walk of find (of ImposeRegisters). -/
import Derived.Test.YtjcijogdcafloaaImpE
import Derived.Test.YtjcijogdcafloaaRegPlain
namespace Go.Proofs.Ytjcijogdcafloaa
open Go.RowKit
theorem findP_at {l : List Pla} {page : Int} {i : Nat} (hi : i < l.length) (h : (plN l i).page = page) (hb : ∀ j, j < i → (plN l j).page ≠ page) : findP l page = some (plN l i) := by
  have e : plN l i = l[i] := by unfold plN; rw [List.getD_eq_getElem?_getD, List.getElem?_eq_getElem hi]; rfl
  unfold findP
  rw [List.find?_eq_some_iff_getElem]
  refine ⟨by rw [h]; simp, i, hi, e.symm, fun j hj => ?_⟩
  have ej : plN l j = l[j] := by unfold plN; rw [List.getD_eq_getElem?_getD, List.getElem?_eq_getElem (by omega)]; rfl
  rw [← ej]; simpa using hb j hj
theorem findP_no {l : List Pla} {page : Int} (hb : ∀ j, j < l.length → (plN l j).page ≠ page) : findP l page = none := by
  unfold findP
  rw [List.find?_eq_none]
  intro x hx
  obtain ⟨j, hj, rfl⟩ := List.getElem_of_mem hx
  have ej : plN l j = l[j] := by unfold plN; rw [List.getD_eq_getElem?_getD, List.getElem?_eq_getElem hj]; rfl
  rw [← ej]; simpa using hb j hj
def plV (p : Pla) : Value := .agg #[.int .i64 p.page, .int .i64 p.x, .int .i64 p.y, .int .i64 p.turn]
def FindPost (r : Pla × Bool) (w : World) (e : Ending) (w' : World) : Prop := e = .returned (.tuple #[plV r.1, .bool r.2]) ∧ Below w.heap.size w w'
set_option maxRecDepth 100000 in
set_option maxHeartbeats 8000000 in
theorem find_any (S : Nat) (a b : Int) (vf vb : Value) (F Bk : List Pla) (page : Int) (w : World) (hS : Blk w S 30 #[.int .i64 a, .int .i64 b, vf, vb]) (hf : PlV w (fun _ => True) vf F) (hb : PlV w (fun _ => True) vb Bk) (hn : F.length ≤ 64) (hn2 : Bk.length ≤ 64) :
    Calls Try.prog 12 #[.int .i64 page, .pointer (some ⟨S, 0, none⟩)] w (FindPost (found F Bk page) w) := by
  have HPost : Hid (∀ e w', FindPost (found F Bk page) w e w' = (e = .returned (.tuple #[plV (found F Bk page).1, .bool (found F Bk page).2]) ∧ Below w.heap.size w w')) := fun _ _ => rfl
  have HF1 : Hid (∀ i, i < F.length → (plN F i).page = page → (∀ j, j < i → (plN F j).page ≠ page) → found F Bk page = (plN F i, false)) := fun i hi h1 h2 => by
    unfold found; rw [findP_at hi h1 h2]
  have HF2 : Hid ((∀ j, j < F.length → (plN F j).page ≠ page) → (∀ i, i < Bk.length → (plN Bk i).page = page → (∀ j, j < i → (plN Bk j).page ≠ page) → found F Bk page = (plN Bk i, true)) ∧ ((∀ j, j < Bk.length → (plN Bk j).page ≠ page) → found F Bk page = (⟨0, 0, 0, 0⟩, false))) := fun h0 => by
    unfold found
    rw [findP_no h0]
    refine ⟨fun i hi h1 h2 => ?_, fun h1 => ?_⟩
    · rw [findP_at hi h1 h2]
    · rw [findP_no h1]
  generalize FindPost (found F Bk page) w = Post at *
  generalize found F Bk page = res at *
  have HS := Lib.hid hS
  have HVf := Lib.hid hf
  have HVb := Lib.hid hb
  obtain ⟨Af, cf, ef⟩ := hf.form
  obtain ⟨Ab, cb, eb⟩ := hb.form
  subst ef eb
  have s2 := hS.cell 2
  simp only [List.getElem?_toArray, List.getElem?_cons_zero, List.getElem?_cons_succ] at s2
  have lS := hS.lt
  clear hS hf hb
  generalize hnf : F.length = nf at *
  generalize hnb : Bk.length = nb at *
  have HNf := Lib.hid hnf
  have HNb := Lib.hid hnb
  clear hnf hnb
  have b0 := Lib.hid ((Below.refl w.heap.size w).alloc (Nat.le_refl _) (Obj.cells #[.int .i64 0, .int .i64 0, .int .i64 0, .int .i64 0] 36))
  have r0 := Lib.hid (Blk.new w 36 #[.int .i64 0, .int .i64 0, .int .i64 0, .int .i64 0])
  go_enter Try.func12, Try.ntmps12
  go_wp2
  clear s2
  go_loopw [12] (fun vi wr => ∃ i : Nat, i ≤ nf ∧ vi = .int .i64 i ∧ Hid (∀ j, j < i → (plN F j).page ≠ page) ∧ Blk wr w.heap.size 36 #[.int .i64 0, .int .i64 0, .int .i64 0, .int .i64 0] ∧ Below w.heap.size w wr) (fun i _ => nf - (intOf i).toNat)
  case atStart => exact ⟨0, by omega, rfl, fun j hj => absurd hj (Nat.not_lt_zero j), r0.out, b0.out⟩
  case round =>
    obtain ⟨i, hi, rfl, hno, hr, hb⟩ := hrel
    by_cases hlt : i < nf
    · obtain ⟨bP, oP, cP, eP, _, hbP, hcapP, _, hcP⟩ := (HVf.out).cells (by rw [HNf.out]; omega)
      rw [HNf.out] at eP
      injection eP with eA _ eC
      subst eA eC
      obtain ⟨q0, q1, q2, q3⟩ := hcP i (by rw [HNf.out]; exact hlt)
      have d0 := (hb.cell (p := ⟨bP, oP + i * 4, none⟩) hbP).trans q0
      have d1 := (hb.cell (p := ⟨bP, oP + i * 4 + 1, none⟩) hbP).trans q1
      have d2 := (hb.cell (p := ⟨bP, oP + i * 4 + 2, none⟩) hbP).trans q2
      have d3 := (hb.cell (p := ⟨bP, oP + i * 4 + 3, none⟩) hbP).trans q3
      have hsz := hb.size
      have lbP : bP < wr.heap.size := by omega
      have H1 := Lib.hid (HF1.out i hlt)
      have hra := hr.alloc (Obj.cells #[.int .i64 (plN F i).page, .int .i64 (plN F i).x, .int .i64 (plN F i).y, .int .i64 (plN F i).turn] 36)
      have HBa := Lib.hid (hb.alloc hb.size (Obj.cells #[.int .i64 (plN F i).page, .int .i64 (plN F i).x, .int .i64 (plN F i).y, .int .i64 (plN F i).turn] 36))
      have HRa := Lib.hid hra
      have g0 := hr.cell 0
      have g1 := hr.cell 1
      have g2 := hr.cell 2
      have g3 := hr.cell 3
      simp only [List.getElem?_toArray, List.getElem?_cons_zero, List.getElem?_cons_succ] at g0 g1 g2 g3
      have f0 := hr.frozen 0
      have f1 := hr.frozen 1
      have f2 := hr.frozen 2
      have f3 := hr.frozen 3
      have lr := hr.lt
      have HBb := Lib.hid hb
      have HRr := Lib.hid hr
      clear q0 q1 q2 q3 hcP hb hr hra
      generalize hpi : plN F i = pi at *
      have HPi := Lib.hid hpi
      clear hpi
      obtain ⟨pp, px, py, pt⟩ := pi
      dsimp only at d0 d1 d2 d3
      cases hq : (pp == page)
      · have hq' : pp ≠ page := by simpa using hq
        have HQ := Lib.hid hq'
        clear hq'
        go_wp2
        go_roundw
        case rel =>
          refine ⟨i + 1, by omega, by go_num, fun j hj => ?_, HRa.out, HBa.out⟩
          by_cases e : j = i
          · subst e; rw [HPi.out]; exact HQ.out
          · exact hno.out j (by omega)
        case measure => simp [intOf]; omega
      · have hq' : pp = page := by simpa using hq
        have HRes := Lib.hid (H1.out hq' hno.out)
        clear hq'
        go_wp2
        have hz : Blk (((((wr.setCell ⟨w.heap.size, 0, none⟩ (.int .i64 pp)).setCell ⟨w.heap.size, 1, none⟩ (.int .i64 px)).setCell ⟨w.heap.size, 2, none⟩ (.int .i64 py)).setCell ⟨w.heap.size, 3, none⟩ (.int .i64 pt)).alloc (Obj.cells #[.int .i64 pp, .int .i64 px, .int .i64 py, .int .i64 pt] 36)) w.heap.size 36 #[.int .i64 pp, .int .i64 px, .int .i64 py, .int .i64 pt] := by
          have h := ((((HRr.out.put 0 (.int .i64 pp)).put 1 (.int .i64 px)).put 2 (.int .i64 py)).put 3 (.int .i64 pt)).alloc (Obj.cells #[.int .i64 pp, .int .i64 px, .int .i64 py, .int .i64 pt] 36)
          simpa using h
        have k0 := hz.cell 0
        have k1 := hz.cell 1
        have k2 := hz.cell 2
        have k3 := hz.cell 3
        simp only [List.getElem?_toArray, List.getElem?_cons_zero, List.getElem?_cons_succ] at k0 k1 k2 k3
        refine bodyPost_ret (v := .tuple #[.agg #[.int .i64 pp, .int .i64 px, .int .i64 py, .int .i64 pt], .bool false]) (by simp [results, Try.results12, go_sem, k0, k1, k2, k3]) rfl ?_
        rw [HPost.out, HRes.out]
        exact ⟨rfl, ((((HBb.out.setCell (p := ⟨w.heap.size, 0, none⟩) (Nat.le_refl _) _).setCell (p := ⟨w.heap.size, 1, none⟩) (Nat.le_refl _) _).setCell (p := ⟨w.heap.size, 2, none⟩) (Nat.le_refl _) _).setCell (p := ⟨w.heap.size, 3, none⟩) (Nat.le_refl _) _).alloc (by have := HBb.out.size; simp; omega) _⟩
    · obtain rfl : i = nf := by omega
      have H2 := Lib.hid (HF2.out hno.out)
      have sb := HS.out.below hb lS
      have s3 := sb.cell 3
      simp only [List.getElem?_toArray, List.getElem?_cons_zero, List.getElem?_cons_succ] at s3
      have lSr := sb.lt
      have HB1 := Lib.hid hb
      have HR1 := Lib.hid hr
      clear hno hb hr sb
      go_wp2
      clear s3
      go_loopw [25] (fun vi wr => ∃ i : Nat, i ≤ nb ∧ vi = .int .i64 i ∧ Hid (∀ j, j < i → (plN Bk j).page ≠ page) ∧ Blk wr w.heap.size 36 #[.int .i64 0, .int .i64 0, .int .i64 0, .int .i64 0] ∧ Below w.heap.size w wr) (fun i _ => nb - (intOf i).toNat)
      case atStart => exact ⟨0, by omega, rfl, fun j hj => absurd hj (Nat.not_lt_zero j), HR1.out, HB1.out⟩
      case round =>
        obtain ⟨i, hi, rfl, hno, hr, hb⟩ := hrel
        by_cases hlt : i < nb
        · obtain ⟨bP, oP, cP, eP, _, hbP, hcapP, _, hcP⟩ := (HVb.out).cells (by rw [HNb.out]; omega)
          rw [HNb.out] at eP
          injection eP with eA _ eC
          subst eA eC
          obtain ⟨q0, q1, q2, q3⟩ := hcP i (by rw [HNb.out]; exact hlt)
          have d0 := (hb.cell (p := ⟨bP, oP + i * 4, none⟩) hbP).trans q0
          have d1 := (hb.cell (p := ⟨bP, oP + i * 4 + 1, none⟩) hbP).trans q1
          have d2 := (hb.cell (p := ⟨bP, oP + i * 4 + 2, none⟩) hbP).trans q2
          have d3 := (hb.cell (p := ⟨bP, oP + i * 4 + 3, none⟩) hbP).trans q3
          have hsz := hb.size
          have lbP : bP < wr.heap.size := by omega
          have H1 := Lib.hid ((H2.out).1 i hlt)
          have hra := hr.alloc (Obj.cells #[.int .i64 (plN Bk i).page, .int .i64 (plN Bk i).x, .int .i64 (plN Bk i).y, .int .i64 (plN Bk i).turn] 36)
          have HBa := Lib.hid (hb.alloc hb.size (Obj.cells #[.int .i64 (plN Bk i).page, .int .i64 (plN Bk i).x, .int .i64 (plN Bk i).y, .int .i64 (plN Bk i).turn] 36))
          have HRa := Lib.hid hra
          have g0 := hr.cell 0
          have g1 := hr.cell 1
          have g2 := hr.cell 2
          have g3 := hr.cell 3
          simp only [List.getElem?_toArray, List.getElem?_cons_zero, List.getElem?_cons_succ] at g0 g1 g2 g3
          have f0 := hr.frozen 0
          have f1 := hr.frozen 1
          have f2 := hr.frozen 2
          have f3 := hr.frozen 3
          have lr := hr.lt
          have HBb := Lib.hid hb
          have HRr := Lib.hid hr
          clear q0 q1 q2 q3 hcP hb hr hra
          generalize hpi : plN Bk i = pi at *
          have HPi := Lib.hid hpi
          clear hpi
          obtain ⟨pp, px, py, pt⟩ := pi
          dsimp only at d0 d1 d2 d3
          cases hq : (pp == page)
          · have hq' : pp ≠ page := by simpa using hq
            have HQ := Lib.hid hq'
            clear hq'
            go_wp2
            go_roundw
            case rel =>
              refine ⟨i + 1, by omega, by go_num, fun j hj => ?_, HRa.out, HBa.out⟩
              by_cases e : j = i
              · subst e; rw [HPi.out]; exact HQ.out
              · exact hno.out j (by omega)
            case measure => simp [intOf]; omega
          · have hq' : pp = page := by simpa using hq
            have HRes := Lib.hid (H1.out hq' hno.out)
            clear hq'
            go_wp2
            have hz : Blk (((((wr.setCell ⟨w.heap.size, 0, none⟩ (.int .i64 pp)).setCell ⟨w.heap.size, 1, none⟩ (.int .i64 px)).setCell ⟨w.heap.size, 2, none⟩ (.int .i64 py)).setCell ⟨w.heap.size, 3, none⟩ (.int .i64 pt)).alloc (Obj.cells #[.int .i64 pp, .int .i64 px, .int .i64 py, .int .i64 pt] 36)) w.heap.size 36 #[.int .i64 pp, .int .i64 px, .int .i64 py, .int .i64 pt] := by
              have h := ((((HRr.out.put 0 (.int .i64 pp)).put 1 (.int .i64 px)).put 2 (.int .i64 py)).put 3 (.int .i64 pt)).alloc (Obj.cells #[.int .i64 pp, .int .i64 px, .int .i64 py, .int .i64 pt] 36)
              simpa using h
            have k0 := hz.cell 0
            have k1 := hz.cell 1
            have k2 := hz.cell 2
            have k3 := hz.cell 3
            simp only [List.getElem?_toArray, List.getElem?_cons_zero, List.getElem?_cons_succ] at k0 k1 k2 k3
            refine bodyPost_ret (v := .tuple #[.agg #[.int .i64 pp, .int .i64 px, .int .i64 py, .int .i64 pt], .bool true]) (by simp [results, Try.results12, go_sem, k0, k1, k2, k3]) rfl ?_
            rw [HPost.out, HRes.out]
            exact ⟨rfl, ((((HBb.out.setCell (p := ⟨w.heap.size, 0, none⟩) (Nat.le_refl _) _).setCell (p := ⟨w.heap.size, 1, none⟩) (Nat.le_refl _) _).setCell (p := ⟨w.heap.size, 2, none⟩) (Nat.le_refl _) _).setCell (p := ⟨w.heap.size, 3, none⟩) (Nat.le_refl _) _).alloc (by have := HBb.out.size; simp; omega) _⟩
        · obtain rfl : i = nb := by omega
          have HRes := Lib.hid ((H2.out).2 hno.out)
          have HBb := Lib.hid hb
          have g0 := hr.cell 0
          have g1 := hr.cell 1
          have g2 := hr.cell 2
          have g3 := hr.cell 3
          simp only [List.getElem?_toArray, List.getElem?_cons_zero, List.getElem?_cons_succ] at g0 g1 g2 g3
          have f0 := hr.frozen 0
          have f1 := hr.frozen 1
          have f2 := hr.frozen 2
          have f3 := hr.frozen 3
          have lr := hr.lt
          clear hb hr
          go_wp2
          refine bodyPost_ret (v := .tuple #[.agg #[.int .i64 0, .int .i64 0, .int .i64 0, .int .i64 0], .bool false]) (by simp [results, Try.results12, go_sem, g0, g1, g2, g3, World.cell?_setCell_other, World.cell?_setCell_same]) rfl ?_
          rw [HPost.out, HRes.out]
          exact ⟨rfl, (((HBb.out.setCell (p := ⟨w.heap.size, 0, none⟩) (Nat.le_refl _) _).setCell (p := ⟨w.heap.size, 1, none⟩) (Nat.le_refl _) _).setCell (p := ⟨w.heap.size, 2, none⟩) (Nat.le_refl _) _).setCell (p := ⟨w.heap.size, 3, none⟩) (Nat.le_refl _) _⟩
end Go.Proofs.Ytjcijogdcafloaa
