/- The walk of Parse. -/
import Derived.Test.YtonmpealebggoaaGreatDoorPrpPar0
import Derived.Deep.DeepCutAuto
import Derived.Deep.CutBlock
namespace Go.Proofs.YtonmpealebggoaaGreatDoor
open Go.RowKit Pr
theorem PsM.at1 {S : ByteArray} {K : Nat} {s : St} {w : World} (h : PsM S K s w) : ∃ a : Nat, a ≤ S.size ∧ a + stLen s = S.size ∧ w.cell? ⟨K, 0, none⟩ = some (.string S) ∧ w.cell? ⟨K, 1, none⟩ = some (.int .i64 (a : Int)) ∧ w.cell? ⟨K, 2, none⟩ = some (.string (Bs s.1)) := h.at_
theorem pRules_step (k : Nat) (l : List Rl) (s : St) : pRules (k + 1) l s = if s.1 = [] then some l else match pRule s with
    | none => none
    | some (r, s2) => pRules k (l ++ [r]) s2 := rfl
/-- A condition stored behind a rule's name. -/
abbrev put6 (w : World) (g : Nat) (u : V5) : World := ((((w.setCell ⟨g, 1, none⟩ u.k).setCell ⟨g, 2, none⟩ u.t).setCell ⟨g, 3, none⟩ u.c).setCell ⟨g, 4, none⟩ u.n).setCell ⟨g, 5, none⟩ u.d
theorem b6_put {w : World} {g : Nat} {t : TypeId} {a b c d e f : Value} (h : Blk w g t #[a, b, c, d, e, f]) (u : V5) : Blk (put6 w g u) g t #[a, u.k, u.t, u.c, u.n, u.d] := by
  have := ((((Blk.put h 1 u.k).put 2 u.t).put 3 u.c).put 4 u.n).put 5 u.d
  simpa [put6] using this
theorem put6_frs {R g : Nat} {T : Nat → Prop} {w w' : World} (h : FrS R T w w') (hg : R ≤ g ∨ T g) (u : V5) : FrS R T w (put6 w' g u) :=
  ((((FrS.put h (p := ⟨g, 1, none⟩) hg u.k).put (p := ⟨g, 2, none⟩) hg u.t).put (p := ⟨g, 3, none⟩) hg u.c).put (p := ⟨g, 4, none⟩) hg u.n).put (p := ⟨g, 5, none⟩) hg u.d
theorem b6_froz {w : World} {g : Nat} {t : TypeId} {a b c d e f : Value} (h : Blk w g t #[a, b, c, d, e, f]) : w.frozen? ⟨g, 0, none⟩ = false ∧ w.frozen? ⟨g, 1, none⟩ = false ∧ w.frozen? ⟨g, 2, none⟩ = false ∧ w.frozen? ⟨g, 3, none⟩ = false ∧ w.frozen? ⟨g, 4, none⟩ = false ∧ w.frozen? ⟨g, 5, none⟩ = false :=
  ⟨Blk.frozen h 0, Blk.frozen h 1, Blk.frozen h 2, Blk.frozen h 3, Blk.frozen h 4, Blk.frozen h 5⟩
theorem b6c {w : World} {g : Nat} {t : TypeId} {a b c d e f : Value} (h : Blk w g t #[a, b, c, d, e, f]) : w.cell? ⟨g, 0, none⟩ = some a ∧ w.cell? ⟨g, 1, none⟩ = some b ∧ w.cell? ⟨g, 2, none⟩ = some c ∧ w.cell? ⟨g, 3, none⟩ = some d ∧ w.cell? ⟨g, 4, none⟩ = some e ∧ w.cell? ⟨g, 5, none⟩ = some f :=
  ⟨by simpa using Blk.cell h 0, by simpa using Blk.cell h 1, by simpa using Blk.cell h 2, by simpa using Blk.cell h 3, by simpa using Blk.cell h 4, by simpa using Blk.cell h 5⟩
def PZ (w : World) (S : ByteArray) : World := (((w.alloc (.cells #[.slice none 0 0] 40)).alloc (.cells #[.int .i64 0] 3)).alloc (.cells #[.int .i64 0] 32)).alloc (.cells #[.string S, .int .i64 0, .string ⟨#[]⟩] 65)
theorem par_zero (w : World) (S : ByteArray) : PaJ w (PZ w S) [] none 0 ∧ PsM S (w.heap.size + 3) ([], S.data.toList) (PZ w S) := by
  unfold PZ
  refine ⟨⟨⟨?_, ?_, ?_, ?_⟩, ⟨rfl, .inl ⟨rfl, rfl⟩⟩, fun x hx => (by cases hx), fun x hx => (by cases hx)⟩, 0, ⟨by simp, rfl, by simp⟩, ?_⟩
  · exact (((Blk.new w _ _).alloc _).alloc _).alloc _
  · have := ((Blk.new (w.alloc (.cells #[.slice none 0 0] 40)) 3 #[.int .i64 0]).alloc (.cells #[.int .i64 0] 32)).alloc (.cells #[.string S, .int .i64 0, .string ⟨#[]⟩] 65)
    simpa using this
  · have := (Blk.new ((w.alloc (.cells #[.slice none 0 0] 40)).alloc (.cells #[.int .i64 0] 3)) 32 #[.int .i64 0]).alloc (.cells #[.string S, .int .i64 0, .string ⟨#[]⟩] 65)
    simpa using this
  · exact ((((Below.refl _ _).alloc (Nat.le_refl _) _).alloc (by simp) _).alloc (by simp; omega) _).alloc (by simp; omega) _
  · have := (Blk.new (((w.alloc (.cells #[.slice none 0 0] 40)).alloc (.cells #[.int .i64 0] 3)).alloc (.cells #[.int .i64 0] 32)) 65 #[.string S, .int .i64 0, .string ⟨#[]⟩]).row
    simpa using this
set_option maxRecDepth 100000 in
set_option maxHeartbeats 16000000 in
theorem parse_any (S : ByteArray) (w : World) (hs : S.size ≤ 4096) (hT : Tabs w ∧ ErrT w) :
    Calls Tryz.prog 11 #[.string S] w (ParsePost S (parseS S.data.toList) w) := by
  have hmf : ∀ (fn : Fn) (first cap : Array Value) (w : World), (Instr.makeFunc fn first cap).run Tryz.prog w = .ok (.func fn first cap) w := fun _ _ _ _ => rfl
  obtain ⟨hpj, hps⟩ := par_zero w S
  have HJ0 := Lib.hid hpj
  have HNx0 := Lib.hid (hps.next hs)
  have HR : Hid (parseS S.data.toList = pRules (S.size + 1) [] (lexW S.data.toList)) := rfl
  generalize parseS S.data.toList = R at *
  have hl0 : stLen (lexW S.data.toList) < S.size + 1 := by have := lexW_len S.data.toList; simp at this; omega
  have HT := Lib.hid hT
  have hk0 : decide ((S.size : Int) > 4096) = false := by simp; omega
  have HPz : Hid (PZ w S = (((w.alloc (.cells #[.slice none 0 0] 40)).alloc (.cells #[.int .i64 0] 3)).alloc (.cells #[.int .i64 0] 32)).alloc (.cells #[.string S, .int .i64 0, .string ⟨#[]⟩] 65)) := rfl
  have hsz : (PZ w S).heap.size = w.heap.size + 4 := by simp [PZ]
  clear hpj hps hT
  generalize PZ w S = wz at *
  go_enter_defers Tryz.func11, Tryz.ntmps11
  go_wp2_with fail
  rw [← HPz.out]
  clear HPz
  refine HNx0.out.mono ?_
  rintro e w1 ⟨rfl, hp1, hg1⟩
  have hf1 : FrS wz.heap.size (fun k => k = w.heap.size + 3) wz w1 := ⟨hg1.os, hg1.tape, hg1.output, hg1.size, fun k hk hn => hg1.block k hk (by simp; exact hn)⟩
  have HJ1 := Lib.hid (HJ0.out.fr hf1)
  have HP1 := Lib.hid hp1
  clear hf1 hg1 hp1 HJ0 HNx0
  go_wp2_with fail
  go_loopw [] (fun wq => True ∧ ∃ L s k A cc, PaJ w wq L A cc ∧ PsM S (w.heap.size + 3) s wq ∧ stLen s < k ∧ pRules k (L.map (·.1)) s = R ∧ L.length + k ≤ 4098) (fun wq => S.size - (intOf ((wq.cell? ⟨w.heap.size + 3, 1, none⟩).getD .nilIface)).toNat)
  case atStart => exact ⟨trivial, [], _, _, none, 0, HJ1.out, HP1.out, hl0, HR.out.symm, by simp; omega⟩
  case round =>
    obtain ⟨-, L, s, k, A, cc, hj, hps, hk, hres, hlk⟩ := hrel
    obtain ⟨a1, ha1, has, q0, q1, q2⟩ := hps.at_
    have hlt := hps.lt
    obtain ⟨k, rfl⟩ : ∃ k', k = k' + 1 := ⟨k - 1, by omega⟩
    have HJ := Lib.hid hj
    have HRs := Lib.hid (hres.symm.trans (pRules_step k _ s))
    have hl3 := hj.pw.lt
    clear hj hres HJ1 HP1 HR
    by_cases h0 : s.1 = []
    · have u0 : ((Bs s.1).toList == []) = true := by rw [Lib.toList_data]; simpa using h0
      have HRn := Lib.hid (show R = some (L.map (·.1)) by rw [HRs.out, if_pos h0])
      have z0 : wr.cell? ⟨w.heap.size, 0, none⟩ = some (.slice A L.length cc) := by simpa using Blk.cell HJ.out.pw.b0 0
      have HCk := Lib.hid (check_any (L.map (·.1)) _ _ wr HJ.out.rls (HT.out.1.later HJ.out.pw.bl))
      generalize Bs s.1 = WD at *
      clear HRs h0 hps
      go_wp2_with fail
      refine HCk.out.mono ?_
      rintro e w2 ⟨rfl, hb2⟩
      have hs2 := hb2.size
      have HB0 := Lib.hid (HJ.out.pw.b0.below hb2 (by omega))
      have HB1 := Lib.hid (HJ.out.pw.b1.below hb2 (by omega))
      have HB2 := Lib.hid (HJ.out.pw.b2.below hb2 (by omega))
      have HBl := Lib.hid (HJ.out.pw.bl.trans (hb2.mono (by omega)))
      have HRl := Lib.hid (HJ.out.rls.later hb2)
      clear hb2 HCk z0
      generalize L.map (·.1) = l at *
      generalize hce : checkE l = ce at *
      have HCe := Lib.hid hce
      clear hce
      have y0 : w2.cell? ⟨w.heap.size, 0, none⟩ = some (.slice A L.length cc) := by simpa using Blk.cell HB0.out 0
      have y1 : w2.cell? ⟨w.heap.size + 1, 0, none⟩ = some (.int .i64 0) := by simpa using Blk.cell HB1.out 0
      have y2 : w2.cell? ⟨w.heap.size + 1 + 1, 0, none⟩ = some (.int .i64 0) := by simpa using Blk.cell HB2.out 0
      have yf0 := Blk.frozen HB0.out 0
      have yf1 := Blk.frozen HB1.out 0
      have yf2 := Blk.frozen HB2.out 0
      have yl0 := HB0.out.lt
      have yl1 := HB1.out.lt
      have yl2 := HB2.out.lt
      have hz : ∀ (x0 x2 : Value), Below w.heap.size w (((w2.setCell ⟨w.heap.size, 0, none⟩ x0).setCell ⟨w.heap.size + 1, 0, none⟩ (.int .i64 0)).setCell ⟨w.heap.size + 1 + 1, 0, none⟩ x2) ∧
          Blk (((w2.setCell ⟨w.heap.size, 0, none⟩ x0).setCell ⟨w.heap.size + 1, 0, none⟩ (.int .i64 0)).setCell ⟨w.heap.size + 1 + 1, 0, none⟩ x2) w.heap.size 40 #[x0] ∧
          Blk (((w2.setCell ⟨w.heap.size, 0, none⟩ x0).setCell ⟨w.heap.size + 1, 0, none⟩ (.int .i64 0)).setCell ⟨w.heap.size + 1 + 1, 0, none⟩ x2) (w.heap.size + 1) 3 #[.int .i64 0] ∧
          Blk (((w2.setCell ⟨w.heap.size, 0, none⟩ x0).setCell ⟨w.heap.size + 1, 0, none⟩ (.int .i64 0)).setCell ⟨w.heap.size + 1 + 1, 0, none⟩ x2) (w.heap.size + 1 + 1) 32 #[x2] ∧
          FrS w2.heap.size (fun k => k < w.heap.size + 3) w2 (((w2.setCell ⟨w.heap.size, 0, none⟩ x0).setCell ⟨w.heap.size + 1, 0, none⟩ (.int .i64 0)).setCell ⟨w.heap.size + 1 + 1, 0, none⟩ x2) := by
        intro x0 x2
        have g0 := Blk.put HB0.out 0 x0
        have g1 := Blk.put (Blk.far HB1.out (p := ⟨w.heap.size, 0, none⟩) (by show w.heap.size + 1 ≠ w.heap.size; omega) x0) 0 (.int .i64 0)
        have g2 := Blk.put (Blk.far (Blk.far HB2.out (p := ⟨w.heap.size, 0, none⟩) (by show w.heap.size + 1 + 1 ≠ w.heap.size; omega) x0) (p := ⟨w.heap.size + 1, 0, none⟩) (by show w.heap.size + 1 + 1 ≠ w.heap.size + 1; omega) (.int .i64 0)) 0 x2
        refine ⟨((HBl.out.setCell (p := ⟨w.heap.size, 0, none⟩) (Nat.le_refl _) _).setCell (p := ⟨w.heap.size + 1, 0, none⟩) (by show w.heap.size ≤ w.heap.size + 1; omega) _).setCell (p := ⟨w.heap.size + 1 + 1, 0, none⟩) (by show w.heap.size ≤ w.heap.size + 1 + 1; omega) _, ?_, ?_, ?_, ?_⟩
        · exact Blk.far (Blk.far (by simpa using g0) (p := ⟨w.heap.size + 1, 0, none⟩) (by show w.heap.size ≠ w.heap.size + 1; omega) _) (p := ⟨w.heap.size + 1 + 1, 0, none⟩) (by show w.heap.size ≠ w.heap.size + 1 + 1; omega) _
        · exact Blk.far (by simpa using g1) (p := ⟨w.heap.size + 1 + 1, 0, none⟩) (by show w.heap.size + 1 ≠ w.heap.size + 1 + 1; omega) _
        · simpa using g2
        · exact (((FrS.refl w2.heap.size (fun k => k < w.heap.size + 3) w2).put (p := ⟨w.heap.size, 0, none⟩) (.inr (by show w.heap.size < _; omega)) _).put (p := ⟨w.heap.size + 1, 0, none⟩) (.inr (by show w.heap.size + 1 < _; omega)) _).put (p := ⟨w.heap.size + 1 + 1, 0, none⟩) (.inr (by show w.heap.size + 1 + 1 < _; omega)) _
      have HZ := Lib.hid hz
      clear hz
      by_cases hc0 : ce = 0
      · have u1 : (ce != 0) = false := by rw [bne_eq_false_iff_eq]; exact hc0
        have HC0 := Lib.hid hc0
        clear hc0
        go_wp2_with fail
        obtain ⟨g1, g2, g3, g4, g5⟩ := HZ.out (.slice A L.length cc) (.int .i64 0)
        refine par_ret S w _ _ 0 g2 g3 g4 R (fun w3 hb => ⟨g1.trans (hb.mono g1.size), ?_⟩) _ rfl rfl rfl
        rw [HRn.out]
        refine .inl ⟨by rw [HCe.out]; exact HC0.out, _, ?_, rfl⟩
        exact ((HRl.out.keep g5.size fun b hb hlt => g5.block b hlt (by omega)).later hb).mono fun b _ hb => by omega
      · have u1 : (ce != 0) = true := by rw [bne_iff_ne]; exact hc0
        have HC0 := Lib.hid hc0
        clear hc0
        go_wp2_with fail
        obtain ⟨g1, g2, g3, g4, g5⟩ := HZ.out (.slice none 0 0) (.int .i64 ce)
        refine par_ret S w _ _ ce g2 g3 g4 R (fun w3 hb => ⟨g1.trans (hb.mono g1.size), ?_⟩) _ rfl rfl rfl
        rw [HRn.out]
        exact .inr ⟨by rw [HCe.out]; exact HC0.out, by rw [HCe.out]⟩
    · have u0 : ((Bs s.1).toList == []) = false := by rw [Lib.toList_data]; simpa using h0
      have HRr := Lib.hid (show R = match pWant wRule s with
        | none => none
        | some s1 => match pName s1 with
          | none => none
          | some (nm, s2) => match pWant [58] s2 with
            | none => none
            | some s3 => match pCond (workN s3) 1 s3 with
              | none => none
              | some (c, s4) => if s4.1 = [59] then pRules k (L.map (·.1) ++ [(nm, c)]) (lexW s4.2) else none by
        rw [HRs.out, if_neg h0]
        unfold pRule
        cases pWant wRule s with
        | none => rfl
        | some s1 =>
          dsimp only
          cases pName s1 with
          | none => rfl
          | some x =>
            obtain ⟨nm, s2⟩ := x
            dsimp only
            cases pWant [58] s2 with
            | none => rfl
            | some s3 =>
              dsimp only
              cases pCond (workN s3) 1 s3 with
              | none => rfl
              | some y =>
                obtain ⟨c, s4⟩ := y
                dsimp only
                by_cases h : s4.1 = [59]
                · rw [if_pos h, if_pos h]
                · rw [if_neg h, if_neg h])
      have HWa := Lib.hid (want_any S (w.heap.size + 3) s wRule wr hps hs)
      have hBr : (Bs wRule : ByteArray) = ⟨#[114, 117, 108, 101]⟩ := rfl
      rw [hBr] at HWa
      have hWl : Hid (∀ s1, pWant wRule s = some s1 → stLen s1 < stLen s) := fun s1 h => pWant_len (by simp [wRule]) h
      clear HRs h0 hps hBr
      generalize pWant wRule s = PW at *
      generalize Bs s.1 = WD at *
      go_wp2_with fail
      refine HWa.out.mono ?_
      rintro e w2 ⟨hg, hq, hp⟩
      have HF2 : Hid (FrS wr.heap.size (fun k => k = w.heap.size + 3) wr w2) := ⟨hg.os, hg.tape, hg.output, hg.size, fun k hk hn => hg.block k hk (by simp; exact hn)⟩
      clear hg HWa
      cases hw : PW with
      | none =>
        obtain ⟨a2, ha2, rfl⟩ := hp hw
        have HRn := Lib.hid (show R = none by rw [HRr.out, hw])
        clear hp hq hw
        go_wp2_with fail
        exact par_panic S w w2 _ a2 ha2 (HJ.out.fr HF2.out).pw R HRn.out _ rfl rfl rfl
      | some s1 =>
        obtain ⟨rfl, hps⟩ := hq _ hw
        have hl1 := hWl.out _ hw
        have HRr2 := Lib.hid (show R = match pName s1 with
          | none => none
          | some (nm, s2) => match pWant [58] s2 with
            | none => none
            | some s3 => match pCond (workN s3) 1 s3 with
              | none => none
              | some (c, s4) => if s4.1 = [59] then pRules k (L.map (·.1) ++ [(nm, c)]) (lexW s4.2) else none by rw [HRr.out, hw])
        have HNa := Lib.hid (name_any S (w.heap.size + 3) s1 w2 hps hs)
        have hNl : Hid (∀ r, pName s1 = some r → stLen r.2 < stLen s1 ∧ r.1.length ≤ 16) := fun r h => pName_len h
        clear hp hq hw hps HRr hWl
        generalize pName s1 = PN at *
        go_wp2_with fail
        refine HNa.out.mono ?_
        rintro e w3 ⟨hg, hq, hp⟩
        have HF3 := Lib.hid (HF2.out.grown hg HF2.out.size (.inr rfl))
        clear hg HNa HF2
        cases hw : PN with
        | none =>
          obtain ⟨a2, ha2, rfl⟩ := hp hw
          have HRn := Lib.hid (show R = none by rw [HRr2.out, hw])
          clear hp hq hw
          go_wp2_with fail
          exact par_panic S w w3 _ a2 ha2 (HJ.out.fr HF3.out).pw R HRn.out _ rfl rfl rfl
        | some x =>
          obtain ⟨nm, s2⟩ := x
          obtain ⟨rfl, hps⟩ := hq _ hw
          have hl2 := (hNl.out _ hw).1
          have hn16 := (hNl.out _ hw).2
          have HRr3 := Lib.hid (show R = match pWant [58] s2 with
            | none => none
            | some s3 => match pCond (workN s3) 1 s3 with
              | none => none
              | some (c, s4) => if s4.1 = [59] then pRules k (L.map (·.1) ++ [(nm, c)]) (lexW s4.2) else none by rw [HRr2.out, hw])
          dsimp only at *
          have HPs := Lib.hid hps
          clear hp hq hw hps HRr2 hNl
          have HWa := Lib.hid (want_any S (w.heap.size + 3) s2 [58] _ (HPs.out.alloc (.cells #[.string (Bs nm), .int .i64 0, .slice none 0 0, .int .i64 0, .int .i64 0, .slice none 0 0] 27)) hs)
          have hBr : (Bs [58] : ByteArray) = ⟨#[58]⟩ := rfl
          rw [hBr] at HWa
          have hWl : Hid (∀ s1, pWant [58] s2 = some s1 → stLen s1 < stLen s2) := fun s1 h => pWant_len (by simp) h
          have hs3 : wr.heap.size ≤ w3.heap.size := HF3.out.size
          have HF4 := Lib.hid (HF3.out.alloc hs3 (.cells #[.string (Bs nm), .int .i64 0, .slice none 0 0, .int .i64 0, .int .i64 0, .slice none 0 0] 27))
          have HT4 := Lib.hid (Blk.new w3 27 #[.string (Bs nm), .int .i64 0, .slice none 0 0, .int .i64 0, .int .i64 0, .slice none 0 0])
          clear HF3 HPs hBr
          generalize hNM : Bs nm = NM at *
          have HNM := Lib.hid hNM
          clear hNM
          generalize pWant [58] s2 = PW2 at *
          go_wp2_with fail
          generalize hw4 : w3.alloc (.cells #[.string NM, .int .i64 0, .slice none 0 0, .int .i64 0, .int .i64 0, .slice none 0 0] 27) = w4 at *
          have hs4 : w4.heap.size = w3.heap.size + 1 := by rw [← hw4]; simp
          clear hw4
          generalize w3.heap.size = T at *
          refine HWa.out.mono ?_
          rintro e w5 ⟨hg, hq, hp⟩
          have HF5 := Lib.hid (HF4.out.grown hg (by omega) (.inr rfl))
          have HT5 := Lib.hid (HT4.out.gr hg (by omega))
          have hs5 := hg.size
          clear hg HWa HF4 HT4
          cases hw : PW2 with
          | none =>
            obtain ⟨a2, ha2, rfl⟩ := hp hw
            have HRn := Lib.hid (show R = none by rw [HRr3.out, hw])
            clear hp hq hw
            go_wp2_with fail
            exact par_panic S w w5 _ a2 ha2 (HJ.out.fr HF5.out).pw R HRn.out _ rfl rfl rfl
          | some s3 =>
            obtain ⟨rfl, hps⟩ := hq _ hw
            have hl3' := hWl.out _ hw
            have HRr4 := Lib.hid (show R = match pCond (workN s3) 1 s3 with
              | none => none
              | some (c, s4) => if s4.1 = [59] then pRules k (L.map (·.1) ++ [(nm, c)]) (lexW s4.2) else none by rw [HRr3.out, hw])
            have HCo := Lib.hid (cond_all S (w.heap.size + 3) hs (workN s3) 1 s3 w5 (by omega) (by omega) hps ((HJ.out.fr HF5.out).pw.tab HT.out) (by unfold workN; omega))
            have hCl : Hid (∀ r, pCond (workN s3) 1 s3 = some r → stLen r.2 ≤ stLen s3) := fun r h => pCond_len _ _ h
            clear hp hq hw hps HRr3 hWl
            generalize pCond (workN s3) 1 s3 = PC at *
            go_wp2_with fail
            refine HCo.out.mono ?_
            rintro e w6 ⟨hg, hq, hp⟩
            have hf6 : FrS w5.heap.size (fun k => k = w.heap.size + 3) w5 w6 := ⟨hg.os, hg.tape, hg.output, hg.size, fun k hk hn => hg.block k hk (by simp; exact hn)⟩
            have hTl := HT5.out.lt
            have HF6 := Lib.hid (HF5.out.grown hg HF5.out.size (.inr rfl))
            have HT6 := Lib.hid (hf6.blk HT5.out (by omega) (by omega))
            have hs6 := hf6.size
            clear hg HCo HT5
            cases hw : PC with
            | none =>
              obtain ⟨a2, ha2, rfl⟩ := hp hw
              have HRn := Lib.hid (show R = none by rw [HRr4.out, hw])
              clear hp hq hw
              go_wp2_with fail
              exact par_panic S w w6 _ a2 ha2 (HJ.out.fr HF6.out).pw R HRn.out _ rfl rfl rfl
            | some y =>
              obtain ⟨c, s4⟩ := y
              obtain ⟨v, rfl, hcd, hps⟩ := hq _ hw
              have hl4 := hCl.out _ hw
              have HRr5 := Lib.hid (show R = if s4.1 = [59] then pRules k (L.map (·.1) ++ [(nm, c)]) (lexW s4.2) else none by rw [HRr4.out, hw])
              have HCd := Lib.hid hcd
              have HPs := Lib.hid hps
              obtain ⟨tv, dv, vs, rfl, ht, hd, -⟩ := hcd.open_
              obtain ⟨A1, c1, rfl⟩ := ht.form
              obtain ⟨A2, c2, rfl⟩ := hd.form
              clear hcd hps ht hd hp hq hw hCl hf6 HRr4
              dsimp only [V5.val] at *
              have hTw : T ≠ w.heap.size + 3 := by omega
              have HT7 := Lib.hid (b6_put HT6.out ⟨.int .i64 c.kind, .slice A1 c.terms.length c1, .int .i64 c.cmp, .int .i64 c.than, .slice A2 c.kids.length c2⟩)
              have HF7 := Lib.hid (put6_frs HF6.out (g := T) (.inl (by omega)) ⟨.int .i64 c.kind, .slice A1 c.terms.length c1, .int .i64 c.cmp, .int .i64 c.than, .slice A2 c.kids.length c2⟩)
              have hf67 := put6_frs (FrS.refl w6.heap.size (fun k => k = T) w6) (g := T) (.inr rfl) ⟨.int .i64 c.kind, .slice A1 c.terms.length c1, .int .i64 c.cmp, .int .i64 c.than, .slice A2 c.kids.length c2⟩
              have HPs7 := Lib.hid (hf67.psm HPs.out HPs.out.lt (by omega))
              have HCd7 := Lib.hid (hf67.cdv HCd.out fun b hb hlt => ⟨hlt, by omega⟩)
              have hs7 := hf67.size
              obtain ⟨x0, x1, x2, x3, x4, x5⟩ := b6c HT6.out
              obtain ⟨xf0, xf1, xf2, xf3, xf4, xf5⟩ := b6_froz HT6.out
              have xl := HT6.out.lt
              clear HCd HPs hf67 HT6 HF6
              generalize hcl : c.terms.length = n1 at *
              generalize c.kids.length = n2 at *
              generalize c.kind = k1 at *
              generalize c.cmp = k2 at *
              generalize c.than = k3 at *
              clear hcl
              go_upto_region 11 with (fail)
              unfold put6 at HT7 HF7 HPs7 HCd7 hs7
              dsimp only at HT7 HF7 HPs7 HCd7 hs7
              clear x0 x1 x2 x3 x4 x5 xf0 xf1 xf2 xf3 xf4 xf5 xl
              generalize World.setCell _ _ _ = w7 at *
              obtain ⟨a7, ha7, has7, p0, p1, p2⟩ := HPs7.out.at_
              have hlt7 := HPs7.out.lt
              by_cases hsc : s4.1 = [59]
              case neg =>
                have u1 : ((Bs s4.1).toList == [59]) = false := by rw [Lib.toList_data]; simpa using hsc
                have HRn := Lib.hid (show R = none by rw [HRr5.out, if_neg hsc])
                generalize Bs s4.1 = WD4 at *
                clear hsc
                go_wp2_with fail
                exact par_panic S w w7 _ a7 ha7 (HJ.out.fr HF7.out).pw R HRn.out _ rfl rfl rfl
              have u1 : ((Bs s4.1).toList == [59]) = true := by rw [Lib.toList_data]; simpa using hsc
              have hl5 : stLen (lexW s4.2) < stLen s4 := step_len (by rw [hsc]; simp)
              have HRr6 := Lib.hid (show R = pRules k (L.map (·.1) ++ [(nm, c)]) (lexW s4.2) by rw [HRr5.out, if_pos hsc])
              generalize Bs s4.1 = WD4 at *
              have HNx := Lib.hid (HPs7.out.next hs)
              clear hsc HRr5
              go_wp2_with fail
              refine HNx.out.mono ?_
              rintro e w8 ⟨rfl, hps8, hg⟩
              have hf8 : FrS w7.heap.size (fun k => k = w.heap.size + 3) w7 w8 := ⟨hg.os, hg.tape, hg.output, hg.size, fun k hk hn => hg.block k hk (by simp; exact hn)⟩
              have HF8 := Lib.hid (HF7.out.grown hg HF7.out.size (.inr rfl))
              have HT8 := Lib.hid (hf8.blk HT7.out HT7.out.lt (by omega))
              have HCd8 := Lib.hid (hf8.cdv HCd7.out fun b hb hlt => ⟨hlt, by omega⟩)
              have HJ8 := Lib.hid (HJ.out.fr HF8.out)
              have HPs8 := Lib.hid hps8
              have hs8 := hf8.size
              have hBo : Hid (∀ g, (Value.slice A L.length cc).ownBlock = some g → w.heap.size + 4 ≤ g ∧ g < wr.heap.size) := fun g hg => own_lt HJ.out.own g hg
              clear hg hps8 hf8 HNx HF7 HT7 HCd7 HPs7 p0 p1 p2
              obtain ⟨x0, x1, x2, x3, x4, x5⟩ := b6c HT8.out
              have xl := HT8.out.lt
              have z0 : w8.cell? ⟨w.heap.size, 0, none⟩ = some (.slice A L.length cc) := by simpa using Blk.cell HJ8.out.pw.b0 0
              have HOb := Lib.hid (own_below HJ8.out.own ((Below.refl w8.heap.size w8).alloc (Nat.le_refl _) (.cells #[.string NM, .int .i64 k1, .slice A1 n1 c1, .int .i64 k2, .int .i64 k3, .slice A2 n2 c2] 27)))
              have hl8 := HJ8.out.pw.lt
              go_wp2_with (at_builtin; go_must (refine wpList_pushk eRl rfl (.tmp 45) (.tmp 47) rfl (w.heap.size + 4) (.slice A L.length cc) L.length _ rfl HOb.out ⟨w8.heap.size, 0, none⟩ 1 [.string NM, .int .i64 k1, .slice A1 n1 c1, .int .i64 k2, .int .i64 k3, .slice A2 n2 c2] rfl rfl (news_new _ _ _ _ rfl) (by simp [Value.oneCell']) (by omega) (by omega) (by omega) (by simp; omega) ?_); go_must (intro v' w11 hown11 hgr11 hk11; have HO11 := Lib.hid hown11; have HK11 := Lib.hid hk11; have HGr11 := Lib.hid hgr11; have hgk := ((HJ8.out.pw.b0.alloc (.cells #[.string NM, .int .i64 k1, .slice A1 n1 c1, .int .i64 k2, .int .i64 k3, .slice A2 n2 c2] 27)).grown hgr11 (fun e => by have := (hBo.out _ e.symm).1; omega)); have h1 := hgk.cell 0; have h1f := hgk.frozen 0; simp at h1; obtain ⟨A11, c11, rfl⟩ := own_form hown11; clear hown11 hgr11 hk11 hgk))
              have hpush := PaJ.push (r := (nm, c)) (v := ⟨.int .i64 k1, .slice A1 n1 c1, .int .i64 k2, .int .i64 k3, .slice A2 n2 c2⟩) (B := w5.heap.size) HJ8.out (by have := HO11.out; rw [← HNM.out] at this; exact this) HGr11.out HK11.out HCd8.out (by omega) (fun g hg => by have := (hBo.out g hg).2; omega) hn16
              have hfs : FrS w8.heap.size (fun k => w.heap.size + 4 ≤ k ∨ k = w.heap.size) w8 (w11.setCell ⟨w.heap.size, 0, none⟩ (.slice A11 (L.length + 1) c11)) := (((FrS.refl _ _ _).alloc (Nat.le_refl _) _).grownO HGr11.out (by simp) fun k hk => .inr (.inl (hBo.out k hk).1)).put (p := ⟨w.heap.size, 0, none⟩) (.inr (.inr rfl)) _
              have hps12 := hfs.psm HPs8.out HPs8.out.lt (by omega)
              have HMs : Hid (S.size - (intOf (((w11.setCell ⟨w.heap.size, 0, none⟩ (.slice A11 (L.length + 1) c11)).cell? ⟨w.heap.size + 3, 1, none⟩).getD .nilIface)).toNat < S.size - (intOf ((wr.cell? ⟨w.heap.size + 3, 1, none⟩).getD .nilIface)).toNat) := by
                obtain ⟨a', h1, h2, _, h3, _⟩ := hps12.at_
                unfold Hid
                rw [h3, q1]
                simp [intOf]
                omega
              exact ⟨⟨trivial, L ++ [((nm, c), ⟨.int .i64 k1, .slice A1 n1 c1, .int .i64 k2, .int .i64 k3, .slice A2 n2 c2⟩)], lexW s4.2, k, A11, c11, hpush, hps12, by omega, by rw [List.map_append]; exact HRr6.out.symm, by simp; omega⟩, HMs.out⟩
end Go.Proofs.YtonmpealebggoaaGreatDoor
