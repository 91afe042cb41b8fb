/- The walk of copies.decode. -/
import Derived.Test.YtdibgloaknnfgaaFltRow
import Derived.Lib.BufferRead
namespace Go.Proofs.Ytdibgloaknnfgaa
open Go.RowKit
/-- The slice v of the call's own holds the bytes l. -/
def Ob (B : Nat) (v : Value) (l : List UInt8) (w : World) : Prop := w.ownsRow B 5 1 v l.length (Lib.byteCells l)
theorem ob_nil (B : Nat) (w : World) : Ob B (.slice none 0 0) [] w := ⟨rfl, .inl ⟨rfl, rfl⟩⟩
theorem ob_conv {B : Nat} {v : Value} {l : List UInt8} {w : World} (h : Ob B v l w) :
    (convert 32 9 v).run Try.prog w = .ok (.string ⟨l.toArray⟩) w := by
  have hs := Sl.of_own h
  rcases h.2 with ⟨rfl, h0⟩ | ⟨g, cap, cur, rfl, _⟩
  · obtain rfl : l = [] := List.eq_nil_of_length_eq_zero h0
    exact Lib.run_convert_nil_bytes w _ _ _ 0 Try.underlying32 Try.underlying5 Try.underlying9
  · refine run_convert_bytes_back (P := Try.prog) w 32 9 5 ⟨g, 0, none⟩ cap l Try.underlying32 Try.underlying5 Try.underlying9 fun j hj => ?_
    obtain ⟨ad, hA, _, _, hc⟩ := hs.addr (by rw [Lib.byteCells_length]; omega)
    injection hA with hA
    subst hA
    exact hc j _ (by simp [Lib.byteCells, hj])
theorem ob_open {B : Nat} {v : Value} {l : List UInt8} {w : World} (h : Ob B v l w) (h0 : 0 < l.length) :
    ∃ g cap, v = .slice (some ⟨g, 0, none⟩) l.length cap ∧ B ≤ g ∧ g < w.heap.size ∧ ∀ j, j < l.length → w.cell? ⟨g, j, none⟩ = some (.int .u8 ((l.getD j 0).toNat : Int)) := by
  have hs := Sl.of_own h
  have hlt := own_lt h
  rcases h.2 with ⟨rfl, h1⟩ | ⟨g, cap, cur, rfl, hg, _⟩
  · omega
  · refine ⟨g, cap, rfl, hg, (hlt g rfl).2, fun j hj => ?_⟩
    obtain ⟨ad, hA, _, _, hc⟩ := hs.addr (by rw [Lib.byteCells_length]; omega)
    injection hA with hA
    subst hA
    have := hc j (.int .u8 ((l.getD j 0).toNat : Int)) (by simp [Lib.byteCells, hj, List.getD_eq_getElem?_getD])
    rw [add_plain, Nat.zero_add] at this
    exact this
theorem ob_str {B : Nat} {v : Value} {l : List UInt8} {t : ByteArray} {w : World} (h : w.ownsRow B 5 1 v (l.length + t.size) (Lib.byteCells l ++ Lib.strCells t)) : Ob B v (l ++ t.data.toList) w := by
  unfold Ob
  rw [List.length_append, byteCells_append, show t.data.toList.length = t.size by simp]
  exact h
theorem ob_one {B : Nat} {v : Value} {l : List UInt8} {c : UInt8} {w : World} (h : w.ownsRow B 5 1 v (l.length + 1) (Lib.byteCells l ++ [.int .u8 (c.toNat : Int)])) : Ob B v (l ++ [c]) w := by
  unfold Ob
  rw [List.length_append, byteCells_append]
  exact h
theorem ob_form {B : Nat} {v : Value} {l : List UInt8} {w : World} (h : Ob B v l w) : ∃ A c, v = .slice A l.length c := own_form h
theorem or_i64_nat (a b : Nat) (ha : a < 4294967296) (hb : b < 4294967296) : bits .or .i64 (a : Int) (b : Int) = ((a ||| b : Nat) : Int) := by
  have hx : a ||| b < 2 ^ 32 := Nat.or_lt_two_pow (by omega) (by omega)
  have h1 : (BitVec.ofInt 64 (a : Int)).toNat = a := by
    rw [BitVec.ofInt_natCast, BitVec.toNat_ofNat]; exact Nat.mod_eq_of_lt (by omega)
  have h2 : (BitVec.ofInt 64 (b : Int)).toNat = b := by
    rw [BitVec.ofInt_natCast, BitVec.toNat_ofNat]; exact Nat.mod_eq_of_lt (by omega)
  show IntKind.i64.wrap ((BitVec.ofInt 64 (a : Int) ||| BitVec.ofInt 64 (b : Int)).toNat : Int) = _
  rw [BitVec.toNat_or, h1, h2, IntWalk.i64_in _ (by omega)]
theorem or_two (x y : UInt8) : bits .or .i64 ((x.toNat : Int) * 256) (y.toNat : Int) = ((x.toNat * 256 + y.toNat : Nat) : Int) := by
  have hx := x.toNat_lt
  have hy := y.toNat_lt
  rw [show (x.toNat : Int) * 256 = ((x.toNat * 256 : Nat) : Int) by omega, or_i64_nat _ _ (by omega) (by omega)]
  have := Nat.shiftLeft_add_eq_or_of_lt (i := 8) (by omega : y.toNat < 2 ^ 8) x.toNat
  rw [Nat.shiftLeft_eq] at this
  rw [this]
theorem index_at (s : ByteArray) (k : Int) (n : Nat) (h : n < s.size) (hk : k = n) (W : World) : (Instr.index 9 (.string s) (.int .i64 k)).run Try.prog W = .ok (.int .u8 ((s[n]'h).toNat : Int)) W := by
  subst hk
  unfold Instr.index
  have h0 : (0 : Int) ≤ (n : Int) := by omega
  simp [go_sem, h]
theorem eByte : ElemT Try.prog 32 5 (.int .u8 0) 1 := ElemT.mk_ Try.underlying32 (by kernel_rfl) rfl
theorem byteInfo : (Try.prog.info? 5).map (fun i => (i.zero, i.size, i.bytes)) = some (some (.int .u8 0), 1, 1) := by kernel_rfl
set_option maxRecDepth 100000 in
set_option maxHeartbeats 4000000 in
theorem copies_dec (s : ByteArray) (w : World) (hs : s.size ≤ 1000000) :
    Calls Try.prog 51 #[.agg #[], .string s] w (UngPost w (decC s.data.toList [])) := by
  obtain ⟨i0, hi0, hz0, hz1, hz2⟩ := info_parts byteInfo
  have HI := Lib.hid (And.intro hi0 (And.intro hz0 (And.intro hz1 hz2)))
  clear hi0 hz0 hz1 hz2
  have hlen : s.data.toList.length = s.size := by simp
  have HBy : Hid (∀ j (h : j < s.size), s.data.toList.drop j = s[j]'h :: s.data.toList.drop (j + 1)) := fun j h => List.drop_eq_getElem_cons (by omega)
  have HEx : Hid (∀ i k, i + k ≤ s.size → (s.extract i (i + k)).data.toList = (s.data.toList.drop i).take k) := fun i k h => by rw [Lib.extract_data, Nat.add_sub_cancel_left]
  have HP : Hid (∀ w', Below w.heap.size w w' → ∀ r, r = decC s.data.toList [] → UngPost w (decC s.data.toList []) (.returned (.tuple #[.string ⟨r.1.toArray⟩, .int .i64 r.2])) w') := fun w' hb r h => by rw [h]; exact ⟨rfl, hb⟩
  have HS : Hid (decC (s.data.toList.drop 0) [] = decC s.data.toList []) := rfl
  have HL := Lib.hid hlen
  have HB0 := Lib.hid ((Below.refl w.heap.size w).alloc (Nat.le_refl _) (.cells #[] 46))
  have HN := Lib.hid (ob_nil w.heap.size (w.alloc (.cells #[] 46)))
  clear hlen
  generalize hPo : UngPost w (decC s.data.toList []) = Post at *
  generalize hE : decC s.data.toList [] = E at *
  clear hE hPo
  generalize s.data.toList = L at *
  go_enter Try.func51, Try.ntmps51
  go_wp2
  go_loopw [6, 7, 8, 9] (fun v6 v7 _ _ wr => ∃ (i : Nat) (acc : List UInt8) (A : Option Addr) (cp : Nat), i ≤ s.size ∧ v7 = .int .i64 i ∧ v6 = .slice A acc.length cp ∧ acc.length ≤ 65536 ∧ decC (L.drop i) acc = E ∧ Ob w.heap.size (.slice A acc.length cp) acc wr ∧ Below w.heap.size w wr) (fun _ v7 _ _ _ => s.size - (intOf v7).toNat)
  case atStart => exact ⟨0, [], none, 0, Nat.zero_le _, rfl, rfl, by simp, HS.out, HN.out, HB0.out⟩
  case round =>
    obtain ⟨i, acc, A, cp, hi, rfl, rfl, hal, he, hbd, hb⟩ := hrel
    have HBd := Lib.hid hbd
    have HB := Lib.hid hb
    have HE := Lib.hid he
    clear hbd hb he HN HB0 HS
    by_cases hlt : i < s.size
    · have HD := Lib.hid (HBy.out i hlt)
      have g0 : decide ((i : Int) < (s.size : Int)) = true := by simp; omega
      have hc8 := (s[i]'hlt).toNat_lt
      by_cases c2 : (s[i]'hlt).toNat < 128
      · have g2 : decide (((s[i]'hlt).toNat : Int) < 128) = true := by simp; omega
        by_cases c3 : i + 1 + (s[i]'hlt).toNat + 1 > s.size
        · have g3 : decide ((i : Int) + 1 + ((s[i]'hlt).toNat : Int) + 1 > (s.size : Int)) = true := by simp; omega
          have HR : Hid (E = ([], 12)) := by unfold Hid; rw [← HE.out, HD.out, decC_lit _ _ c2, if_pos (by rw [List.length_drop, HL.out]; omega)]
          go_wp2_with fail
          exact HP.out _ HB.out ([], 12) HR.out.symm
        · have g3 : decide ((i : Int) + 1 + ((s[i]'hlt).toNat : Int) + 1 > (s.size : Int)) = false := by simp; omega
          have HX := Lib.hid (HEx.out (i + 1) ((s[i]'hlt).toNat + 1) (by omega))
          have HR : Hid (E = if 65536 < acc.length + ((s[i]'hlt).toNat + 1) then ([], 2) else decC (L.drop (i + 1 + ((s[i]'hlt).toNat + 1))) (acc ++ (L.drop (i + 1)).take ((s[i]'hlt).toNat + 1))) := by
            unfold Hid; rw [← HE.out, HD.out, decC_lit _ _ c2, if_neg (by rw [List.length_drop, HL.out]; omega), List.drop_drop]
          have HSz : Hid ((s.extract (i + 1) (i + 1 + (s[i]'hlt).toNat + 1)).size = (s[i]'hlt).toNat + 1) := by unfold Hid; rw [ByteArray.size_extract]; omega
          have HX2 : Hid ((s.extract (i + 1) (i + 1 + (s[i]'hlt).toNat + 1)).data.toList = (L.drop (i + 1)).take ((s[i]'hlt).toNat + 1)) := HX
          go_wp2_with (at_builtin; refine Lib.wpList_append_own_string _ rfl _ _ 32 9 rfl w.heap.size 5 i0 Try.underlying32 Try.underlying9 HI.out.1 HI.out.2.1 HI.out.2.2.1 HI.out.2.2.2 _ _ _ rfl HBd.out (s.extract (i + 1) (i + 1 + (s[i]'hlt).toNat + 1)) rfl ?c3 ?c4 HB.out.size ?_)
          case c3 => rw [HSz.out]; unfold maxLen; omega
          case c4 => rw [HSz.out]; omega
          intro v' w2 hown hg _
          have hown2 : w2.ownsRow w.heap.size 5 1 v' (acc.length + (s.extract (i + 1) (i + 1 + (s[i]'hlt).toNat + 1)).size) (Lib.byteCells acc ++ Lib.strCells (s.extract (i + 1) (i + 1 + (s[i]'hlt).toNat + 1))) := by rw [HSz.out]; have h := hown; rw [show min (i + 1 + (s[i]'hlt).toNat + 1) s.size - (i + 1) = (s[i]'hlt).toNat + 1 by omega] at h; exact h
          have hob := ob_str hown2
          have HB2 := Lib.hid (HB.out.grown hg HB.out.size (fun k hk => (own_lt HBd.out k hk).1))
          have hl3 : (acc ++ (s.extract (i + 1) (i + 1 + (s[i]'hlt).toNat + 1)).data.toList).length = acc.length + ((s[i]'hlt).toNat + 1) := by rw [List.length_append, ← HSz.out]; rfl
          generalize hA : acc ++ (s.extract (i + 1) (i + 1 + (s[i]'hlt).toNat + 1)).data.toList = A1 at *
          have HA : Hid (A1 = acc ++ (L.drop (i + 1)).take ((s[i]'hlt).toNat + 1)) := by rw [← HX2.out]; exact hA.symm
          obtain ⟨a1, c1, rfl⟩ := ob_form hob
          have HOb := Lib.hid hob
          have HL3 := Lib.hid hl3
          have hl4 : A1.length ≤ 70000 := by omega
          clear hown hown2 hob hg hA hl3
          by_cases hbig : 65536 < A1.length
          · have g5 : decide ((A1.length : Int) > 65536) = true := by simp; omega
            have HR2 : Hid (E = ([], 2)) := by rw [HR.out, if_pos (by rw [← HL3.out]; exact hbig)]; rfl
            go_wp2_with fail
            exact HP.out _ HB2.out ([], 2) HR2.out.symm
          · have g5 : decide ((A1.length : Int) > 65536) = false := by simp; omega
            have HR2 : Hid (decC (L.drop (i + 1 + ((s[i]'hlt).toNat + 1))) A1 = E) := by
              unfold Hid; rw [HR.out, if_neg (by rw [← HL3.out]; exact hbig), HA.out]
            go_wp2_with fail
            go_roundw
            case rel => exact ⟨i + 1 + ((s[i]'hlt).toNat + 1), A1, a1, c1, by omega, by go_num, rfl, by omega, HR2.out, HOb.out, HB2.out⟩
            case measure => simp [intOf]; omega
      · have g2 : decide (((s[i]'hlt).toNat : Int) < 128) = false := by simp; omega
        by_cases c3 : i + 1 + 2 > s.size
        · have g3 : decide ((i : Int) + 1 + 2 > (s.size : Int)) = true := by simp; omega
          have HR : Hid (E = ([], 12)) := by
            unfold Hid; rw [← HE.out, HD.out, decC_short _ c2 (by rw [List.length_drop, HL.out]; omega)]
          go_wp2_with fail
          exact HP.out _ HB.out ([], 12) HR.out.symm
        · have g3 : decide ((i : Int) + 1 + 2 > (s.size : Int)) = false := by simp; omega
          have HD2 := Lib.hid (HBy.out (i + 1) (by omega))
          have HD3 := Lib.hid (HBy.out (i + 1 + 1) (by omega))
          generalize hx : s[i + 1]'(by omega) = x at *
          generalize hy : s[i + 1 + 1]'(by omega) = y at *
          have hi1 := fun W => index_at s ((i : Int) + 1) (i + 1) (by omega) (by omega) W
          have hi2 := fun W => index_at s ((i : Int) + 1 + 1) (i + 1 + 1) (by omega) (by omega) W
          simp only [hx] at hi1
          simp only [hy] at hi2
          have e1 : IntKind.i64.wrap ((i : Int) + 1 + 1) = (i : Int) + 1 + 1 := IntWalk.i64_in _ (by omega)
          have hx8 := x.toNat_lt
          have e2 : IntKind.i64.wrap ((x.toNat : Int) * 256) = (x.toNat : Int) * 256 := IntWalk.i64_in _ (by omega)
          have e3 := or_two x y
          have hd2 : x.toNat * 256 + y.toNat < 65536 := by have := x.toNat_lt; have := y.toNat_lt; omega
          have HDe := Lib.hid (rfl : x.toNat * 256 + y.toNat = x.toNat * 256 + y.toNat)
          generalize hd : x.toNat * 256 + y.toNat = D at e3 hd2
          have HDd := Lib.hid hd
          clear hd HDe
          have e4 : IntKind.i64.wrap ((x.toNat : Int)) = (x.toNat : Int) := IntWalk.i64_in _ (by omega)
          have hy8 := y.toNat_lt
          have e5 : IntKind.i64.wrap ((y.toNat : Int)) = (y.toNat : Int) := IntWalk.i64_in _ (by omega)
          clear hx hy
          go_wp2_with fail
          go_quiet (fail)
          clear e1 e2 e3 e4 e5 hi1 hi2
          have hr : decC (L.drop i) acc = if x.toNat * 256 + y.toNat = 0 ∨ acc.length < x.toNat * 256 + y.toNat then ([], 3) else if 65536 < acc.length + ((s[i]'hlt).toNat - 125) then ([], 2) else decC (L.drop (i + 1 + 1 + 1)) (copyN (x.toNat * 256 + y.toNat) ((s[i]'hlt).toNat - 125) acc) := by
            rw [HD.out, HD2.out, HD3.out, decC_copy _ _ _ _ c2]
          rw [HE.out, HDd.out] at hr
          have HR := Lib.hid hr
          clear hr
          by_cases hD : D = 0
          · have g4 : ((D : Int) == 0) = true := by rw [beq_iff_eq]; omega
            have HR2 : Hid (E = ([], 3)) := by rw [HR.out, if_pos (.inl hD)]; rfl
            have HDB := Lib.hid (below_drewN HB.out)
            clear hD
            go_wp2_with fail
            exact HP.out _ (HDB.out _) ([], 3) HR2.out.symm
          · have g4 : ((D : Int) == 0) = false := by rw [beq_eq_false_iff_ne]; omega
            by_cases hD2 : acc.length < D
            · have g5 : decide ((D : Int) > (acc.length : Int)) = true := by simp; omega
              have HR2 : Hid (E = ([], 3)) := by rw [HR.out, if_pos (.inr hD2)]; rfl
              have HDB := Lib.hid (below_drewN HB.out)
              go_wp2_with fail
              exact HP.out _ (HDB.out _) ([], 3) HR2.out.symm
            · have g5 : decide ((D : Int) > (acc.length : Int)) = false := by simp; omega
              have HR2 : Hid (E = if 65536 < acc.length + ((s[i]'hlt).toNat - 125) then ([], 2) else decC (L.drop (i + 1 + 1 + 1)) (copyN D ((s[i]'hlt).toNat - 125) acc)) := by
                have := HR.out; rw [if_neg (by omega)] at this; exact this
              have HDB := Lib.hid (below_drewN HB.out nq)
              have HOq : Hid (Ob w.heap.size (.slice A acc.length cp) acc (wr.drewN nq)) := HBd.out
              generalize hNN : (s[i]'hlt).toNat - 125 = N at *
              have hN : ((s[i]'hlt).toNat : Int) - 125 = (N : Int) := by omega
              have hN2 : N ≤ 131 := by omega
              have HTl : Hid ((copyN D N acc).length = acc.length + N) := copyN_length D N acc
              generalize hTG : copyN D N acc = TG at *
              have HTg : Hid (copyN D (N - 0) acc = TG) := hTG
              clear hTG
              generalize wr.drewN nq = wq at *
              clear hNN HR HB HBd HE
              go_wp2_with fail
              go_loopw [6, 70] (fun v6 v70 wi => ∃ (k : Nat) (a : List UInt8) (A2 : Option Addr) (cp2 : Nat), k ≤ N ∧ v70 = .int .i64 k ∧ v6 = .slice A2 a.length cp2 ∧ a.length = acc.length + k ∧ copyN D (N - k) a = TG ∧ Ob w.heap.size (.slice A2 a.length cp2) a wi ∧ Below w.heap.size w wi) (fun _ v70 _ => N - (intOf v70).toNat)
              case atStart => exact ⟨0, acc, A, cp, Nat.zero_le _, rfl, rfl, rfl, HTg.out, HOq.out, HDB.out⟩
              case round =>
                obtain ⟨k, a, A2, cp2, hk, rfl, rfl, hal2, htg, hob, hb2⟩ := hrel
                have HT2 := Lib.hid htg
                have HO2 := Lib.hid hob
                have HB2 := Lib.hid hb2
                have HAL := Lib.hid hal2
                have ha1 : D ≤ a.length := by omega
                have ha2 : a.length ≤ 70000 := by omega
                have ha3 : acc.length + k ≤ a.length := by omega
                have ha4 : a.length ≤ acc.length + k := by omega
                clear htg hb2 HTg HOq HDB hal2
                by_cases hkN : k < N
                · have g6 : decide ((k : Int) < (N : Int)) = true := by simp; omega
                  obtain ⟨g, cap, hv, hg1, hg2, hcl⟩ := ob_open hob (by omega)
                  injection hv with hv1 hv2 hv3
                  subst hv1
                  subst hv3
                  clear hv2 hob
                  generalize hj : a.length - D = j at *
                  have hj2 : (a.length : Int) - (D : Int) = (j : Int) := by omega
                  have hj3 : j < a.length := by omega
                  have hcj := hcl j hj3
                  have HSt : Hid (copyN D (N - (k + 1)) (a ++ [a.getD j 0]) = TG) := by
                    have := HT2.out
                    rw [show N - k = (N - (k + 1)) + 1 by omega, copyN, hj] at this
                    exact this
                  generalize a.getD j 0 = b at *
                  clear hcl hj HT2
                  go_wp2_with (at_builtin; refine wpList_push eByte rfl (.tmp 72) (.tmp 80) rfl w.heap.size (.slice (some ⟨g, 0, none⟩) a.length cp2) a.length _ rfl (own_below HO2.out ((Below.refl _ _).alloc (Nat.le_refl _) _)) ⟨wr.heap.size, 0, none⟩ 1 (.int .u8 (b.toNat : Int)) rfl (new_one _ _ _) rfl (by omega) (by omega) (le_alloc HB2.out.size _) ?_; intro v' w1 hown1 hgr hk1)
                  have hob3 := ob_one hown1
                  obtain ⟨A3, c3', rfl⟩ := ob_form hob3
                  go_roundw
                  case rel =>
                    refine ⟨k + 1, a ++ [b], A3, c3', by omega, by go_num, rfl, by rw [List.length_append, HAL.out]; rfl, HSt.out, hob3, ?_⟩
                    exact (HB2.out.alloc HB2.out.size _).grown hgr (by have := HB2.out.size; simp; omega) (fun q hq => by have hq2 : g = q := Option.some.inj hq; omega)
                  case measure => simp [intOf]; omega
                · have hkk : k = N := by omega
                  subst hkk
                  have g6 : decide ((k : Int) < (k : Int)) = false := by simp
                  have HT3 : Hid (a = TG) := by have := HT2.out; rw [Nat.sub_self] at this; exact this
                  have hl4 : a.length = acc.length + k := HAL.out
                  have HL4 := Lib.hid hl4
                  clear hl4
                  by_cases hbig : 65536 < a.length
                  · have g7 : decide ((a.length : Int) > 65536) = true := by simp; omega
                    have HR3 : Hid (E = ([], 2)) := by rw [HR2.out, if_pos (by rw [← HL4.out]; exact hbig)]; rfl
                    go_wp2_with fail
                    exact HP.out _ HB2.out ([], 2) HR3.out.symm
                  · have g7 : decide ((a.length : Int) > 65536) = false := by simp; omega
                    have HR3 : Hid (decC (L.drop (i + 1 + 1 + 1)) a = E) := by
                      unfold Hid; rw [HR2.out, if_neg (by rw [← HL4.out]; exact hbig), HT3.out]
                    go_wp2_with fail
                    go_roundw
                    case rel => exact ⟨i + 1 + 1 + 1, a, A2, cp2, by omega, by go_num, rfl, by omega, HR3.out, HO2.out, HB2.out⟩
                    case measure => simp [intOf]; omega
    · have g0 : decide ((i : Int) < (s.size : Int)) = false := by simp; omega
      have HR : Hid (E = (acc, 0)) := by unfold Hid; rw [← HE.out, show L.drop i = [] by rw [List.drop_eq_nil_iff, HL.out]; omega, decC_nil]
      have hcv := ob_conv HBd.out
      go_wp2_with fail
      exact HP.out _ HB.out (acc, 0) HR.out.symm
end Go.Proofs.Ytdibgloaknnfgaa
