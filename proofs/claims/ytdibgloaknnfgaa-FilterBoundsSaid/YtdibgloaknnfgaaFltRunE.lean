/- The walk of runs.encode. -/
import Derived.Test.YtdibgloaknnfgaaFltRep
namespace Go.Proofs.Ytdibgloaknnfgaa
open Go.RowKit
def fB (c : Cell) : Value := .int .i64 (c.1 : Nat)
def fT (c : Cell) : Value := .int .i64 c.2
def arrC (f : Cell → Value) (q : Nat) (rest : List Cell) : List Value := List.replicate q (.int .i64 0) ++ rest.map f
theorem arrC_len (f : Cell → Value) (q : Nat) (rest : List Cell) : (arrC f q rest).length = q + rest.length := by simp [arrC]
theorem arrC_at (f : Cell → Value) (q : Nat) (rest : List Cell) (j : Nat) (h : j < rest.length) : (arrC f q rest)[q + j]? = some (f (rest.getD j (0, 0))) := by
  unfold arrC
  rw [List.getElem?_append_right (by simp), List.length_replicate, Nat.add_sub_cancel_left, List.getElem?_map, List.getD_eq_getElem?_getD, List.getElem?_eq_getElem h]
  rfl
theorem arrC_set (f : Cell → Value) (q : Nat) (c : Cell) (rest : List Cell) : (arrC f (q + 1) rest).set q (f c) = arrC f q (c :: rest) := by
  unfold arrC
  rw [List.replicate_succ', List.append_assoc, List.set_append_right _ _ (by simp), List.length_replicate, Nat.sub_self]
  rfl
theorem arrC_put (f : Cell → Value) (q : Nat) (c c' : Cell) (rest : List Cell) : (arrC f q (c :: rest)).set q (f c') = arrC f q (c' :: rest) := by
  unfold arrC
  rw [List.set_append_right _ _ (by simp), List.length_replicate, Nat.sub_self]
  rfl
theorem eIntF : ElemT Try.prog 71 3 (.int .i64 0) 8 := ElemT.mk_ Try.underlying71 (by kernel_rfl) rfl
theorem bx_new (w : World) : Bx w.heap.size w.heap.size [] (w.alloc (.cells #[.pointer none, .slice none 0 0] 66)) := by
  have h := Blk.new w 66 #[.pointer none, .slice none 0 0]
  refine .inl ⟨by omega, .slice none 0 0, by simpa [Blk] using h, ⟨rfl, .inl ⟨rfl, rfl⟩⟩, by simp [Value.ownBlock]⟩
theorem bx_string {B b : Nat} {l : List UInt8} {w : World} (h : Bx B b l w) (hB : B ≤ w.heap.size) :
    Calls Try.prog 36 #[.pointer (some ⟨b, 0, none⟩)] w fun e w' => e = .returned (.string ⟨l.toArray⟩) ∧ Below B w w' := by
  refine (Builder_String_any B b _ w h hB).mono ?_
  rintro e w' ⟨rfl, h2⟩
  exact ⟨rfl, h2⟩
set_option maxRecDepth 100000 in
set_option maxHeartbeats 8000000 in
theorem runs_enc (s : ByteArray) (w : World) (hs : s.size ≤ 1000000) :
    Calls Try.prog 32 #[.agg #[], .string s] w fun e w' => e = .returned (.string ⟨(encR s.data.toList).toArray⟩) ∧ Below w.heap.size w w' := by
  have m1 := run_make1 (P := Try.prog) eIntF rfl (s.size + 1) ((s.size : Int) + 1) (by omega) (by omega) (by omega)
  have hlen : s.data.toList.length = s.size := by simp
  have HL := Lib.hid hlen
  have HRep : Hid (∀ (q : Nat) W, q < s.size → Calls Try.prog 37 #[.string (s.extract q s.size)] W fun e w' => e = .returned (.int .i64 (repN (s.data.toList.drop q) : Nat)) ∧ Below W.heap.size W w') := fun q W hq => by
    have := repeated_any (s.extract q s.size) W (by rw [ByteArray.size_extract]; omega) (by rw [ByteArray.size_extract]; omega)
    rwa [Lib.extract_data, List.take_of_length_le (by rw [List.length_drop]; omega)] at this
  have HBy : Hid (∀ j (h : j < s.size), s[j]'h = s.data.toList.getD j 0) := fun j h => sbyte s j h
  have HEx : Hid (∀ i k, i + k ≤ s.size → (s.extract i (i + k)).data.toList = (s.data.toList.drop i).take k) := fun i k h => by rw [Lib.extract_data, Nat.add_sub_cancel_left]
  have HBt := Lib.hid (cellR_bound s.data.toList)
  have hq1 := (Below.refl w.heap.size w).alloc (Nat.le_refl _) (.cells #[] 43)
  generalize s.data.toList = L at *
  go_enter Try.func32, Try.ntmps32
  go_wp2_with fail
  have hw1 : Hid (∀ W : World, W = ((w.alloc (.cells #[] 43)).alloc (.cells (Array.replicate (s.size + 1) (.int .i64 0)) 3)).alloc (.cells (Array.replicate (s.size + 1) (.int .i64 0)) 3) → Row W (w.heap.size + 1) (arrC fB s.size (cellsR [])) ∧ Row W (w.heap.size + 1 + 1) (arrC fT s.size (cellsR [])) ∧ Below w.heap.size w W ∧ w.heap.size + 3 ≤ W.heap.size) := by
    rintro W rfl
    have e1 : arrC fB s.size (cellsR []) = List.replicate (s.size + 1) (.int .i64 0) := by rw [List.replicate_succ']; rfl
    have e2 : arrC fT s.size (cellsR []) = List.replicate (s.size + 1) (.int .i64 0) := by rw [List.replicate_succ']; rfl
    rw [e1, e2]
    refine ⟨?_, ?_, ?_, by simp⟩
    · have := (Blk.alloc (Blk.new (w.alloc (.cells #[] 43)) 3 (Array.replicate (s.size + 1) (Value.int .i64 0))) (.cells (Array.replicate (s.size + 1) (.int .i64 0)) 3)).row
      simpa using this
    · have := (Blk.new ((w.alloc (.cells #[] 43)).alloc (.cells (Array.replicate (s.size + 1) (.int .i64 0)) 3)) 3 (Array.replicate (s.size + 1) (Value.int .i64 0))).row
      simpa using this
    · exact (hq1.alloc (by simp) _).alloc (by simp; omega) _
  have h1 := hw1.out _ rfl
  clear hw1 m1 hq1
  generalize ((w.alloc (.cells #[] 43)).alloc (.cells (Array.replicate (s.size + 1) (.int .i64 0)) 3)).alloc (.cells (Array.replicate (s.size + 1) (.int .i64 0)) 3) = w1 at *
  obtain ⟨r1, r2, hb1, hz1⟩ := h1
  go_loopw [7, 8, 9, 10] (fun v7 _ _ _ wr => True ∧ ∃ m : Nat, m ≤ s.size ∧ v7 = .int .i64 ((m : Int) - 1) ∧ Row wr (w.heap.size + 1) (arrC fB m (cellsR (L.drop m))) ∧ Row wr (w.heap.size + 1 + 1) (arrC fT m (cellsR (L.drop m))) ∧ Below w.heap.size w wr ∧ w.heap.size + 3 ≤ wr.heap.size) (fun v7 _ _ _ _ => (intOf v7 + 1).toNat)
  case atStart => exact ⟨trivial, s.size, Nat.le_refl _, rfl, by rw [← HL.out, List.drop_length, HL.out]; exact r1, by rw [← HL.out, List.drop_length, HL.out]; exact r2, hb1, hz1⟩
  case round =>
    obtain ⟨-, m, hm, rfl, q1, q2, hbr, hz⟩ := hrel
    clear r1 r2 hb1
    have H1 := Lib.hid q1
    have H2 := Lib.hid q2
    have HB := Lib.hid hbr
    clear q1 q2 hbr
    cases m with
    | zero =>
      rw [show ((0 : Nat) : Int) - 1 = -1 from rfl]
      obtain ⟨wz, rfl⟩ : ∃ wz, wz = wr := ⟨_, rfl⟩
      rw [List.drop_zero] at H1 H2
      have hbn : Bx wz.heap.size wz.heap.size [] (wz.alloc (.cells #[.pointer none, .slice none 0 0] 66)) := bx_new wz
      have hrn := Row.alloc H2.out (.cells #[.pointer none, .slice none 0 0] 66)
      have hbo := HB.out
      have hnb := (Below.refl wz.heap.size wz).alloc (Nat.le_refl _) (.cells #[.pointer none, .slice none 0 0] 66)
      have HNb := Lib.hid hbn
      have HRn := Lib.hid hrn
      have HNn := Lib.hid hnb
      clear hbn hrn hbo hnb H1 H2 HRep HBt
      go_wp2_with fail
      go_loopw [12, 13] (fun v12 _ wy => ∃ (i : Nat) (acc : List UInt8), i ≤ s.size ∧ v12 = .int .i64 i ∧ acc.length ≤ 2 * i ∧ acc ++ encR (L.drop i) = encR L ∧ Row wy (w.heap.size + 1 + 1) (arrC fT 0 (cellsR L)) ∧ Bx wz.heap.size wz.heap.size acc wy ∧ Below wz.heap.size wz wy) (fun v12 _ _ => s.size - (intOf v12).toNat)
      case atStart => exact ⟨0, [], Nat.zero_le _, rfl, Nat.le_refl _, rfl, HRn.out, HNb.out, HNn.out⟩
      case round =>
        obtain ⟨i, acc, hi, rfl, hal, he, hr2, hbd, hb⟩ := hrel
        have HE := Lib.hid he
        have HR2 := Lib.hid hr2
        have HBd := Lib.hid hbd
        have HBl := Lib.hid hb
        clear he hr2 hbd hb HNb HRn HNn
        by_cases hlt : i < s.size
        · have hne : L.drop i ≠ [] := fun e => by have := congrArg List.length e; rw [List.length_drop, hlen] at this; simp at this; omega
          have hok := (cell_ok hne).1
          have hem := encR_more hne
          have hln := ok_len hok
          rw [List.length_drop, hlen] at hln
          have hpl := piece_length hok
          have t1 : wr.cell? ⟨w.heap.size + 1 + 1, i, none⟩ = some (.int .i64 (cellR (L.drop i)).2) := by
            have := HR2.out.cell (0 + i) _ (arrC_at fT 0 (cellsR L) i (by rw [cellsR_length, hlen]; omega))
            rw [Nat.zero_add] at this
            rw [this]
            unfold cellR fT
            rw [← cellsR_drop L i (by rw [hlen]; omega)]
            simp [List.getD_eq_getElem?_getD, List.getElem?_drop]
          have l2 := HR2.out.lt
          have HEm : Hid (encR (L.drop i) = pieceR (cellR (L.drop i)).2 (L.drop i) ++ encR (L.drop (i + (cellR (L.drop i)).2.natAbs))) := by rw [hem, List.drop_drop]; rfl
          clear hem hne
          generalize (cellR (L.drop i)).2 = T at *
          have HPl := Lib.hid hpl
          have HOk := Lib.hid hok
          clear hpl hok
          by_cases hT : T < 0
          · have gT : decide (T < 0) = true := by simpa using hT
            have HC : Hid ((257 + T) % 256 = ((UInt8.ofNat (257 - T.natAbs)).toNat : Int)) := by unfold Hid; rw [UInt8.toNat_ofNat']; omega
            have HB1 : Hid (∀ W, Bx wz.heap.size wz.heap.size acc W → wz.heap.size ≤ W.heap.size → Calls Try.prog 38 #[.pointer (some ⟨wz.heap.size, 0, none⟩), .int .u8 ((257 + T) % 256)] W fun e w' => e = .returned .nilIface ∧ Bx wz.heap.size wz.heap.size (acc ++ [UInt8.ofNat (257 - T.natAbs)]) w' ∧ Below wz.heap.size W w') := fun W h hB => by rw [HC.out]; exact bx_byte h _ (by omega) hB
            have HP : Hid (pieceR T (L.drop i) = [UInt8.ofNat (257 - T.natAbs), L.getD i 0]) := by unfold Hid pieceR; rw [if_pos hT]; congr 1; rw [List.headD_eq_head?_getD, List.head?_drop, List.getD_eq_getElem?_getD]
            have hT2 : 0 < (i : Int) - T := by omega
            have hT3 : (i : Int) - T ≤ s.size := by omega
            go_wp2_with fail
            ((with_reducible refine (HB1.out _ HBd.out HBl.out.size).mono ?_); rintro e w2 ⟨rfl, hbd2, hb2⟩)
            have HBd2 := Lib.hid hbd2
            have HBl2 := Lib.hid (HBl.out.trans hb2)
            have HR3 := Lib.hid (HR2.out.below hb2 (by omega))
            clear hbd2 hb2 HBl HBd HR2 t1 l2 HB1
            have HHy := Lib.hid (HBy.out i hlt)
            go_wp2_with fail
            ((with_reducible refine (bx_byte HBd2.out _ (by rw [List.length_append]; simp; omega) HBl2.out.size).mono ?_); rintro e w3 ⟨rfl, hbd3, hb3⟩)
            have HBd3 := Lib.hid hbd3
            have HBl3 := Lib.hid (HBl2.out.trans hb3)
            have HR4 := Lib.hid (HR3.out.below hb3 (by omega))
            clear hbd3 hb3 HBl2 HBd2 HR3
            go_wp2_with fail
            go_roundw
            case rel =>
              refine ⟨i + T.natAbs, acc ++ [UInt8.ofNat (257 - T.natAbs)] ++ [s[i]'hlt], by omega, valInt (by omega), by simp; omega, ?_, HR4.out, HBd3.out, HBl3.out⟩
              rw [← HE.out, HEm.out, HP.out, HHy.out]
              simp
            case measure => simp [intOf]; omega
          · have gT : decide (T < 0) = false := by simpa using hT
            have hT0 : 0 ≤ T := by omega
            obtain ⟨k, rfl⟩ : ∃ k : Nat, T = k := ⟨T.toNat, by omega⟩
            have hk1 : 1 ≤ k := by omega
            have hk2 : k ≤ 128 := by omega
            have hk3 : i + k ≤ s.size := by omega
            have HC : Hid ((k : Int) - 1 = ((UInt8.ofNat (k - 1)).toNat : Int)) := by unfold Hid; rw [UInt8.toNat_ofNat']; omega
            have HB1 : Hid (∀ W, Bx wz.heap.size wz.heap.size acc W → wz.heap.size ≤ W.heap.size → Calls Try.prog 38 #[.pointer (some ⟨wz.heap.size, 0, none⟩), .int .u8 ((k : Int) - 1)] W fun e w' => e = .returned .nilIface ∧ Bx wz.heap.size wz.heap.size (acc ++ [UInt8.ofNat (k - 1)]) w' ∧ Below wz.heap.size W w') := fun W h hB => by rw [HC.out]; exact bx_byte h _ (by omega) hB
            have HP : Hid (pieceR (k : Int) (L.drop i) = UInt8.ofNat (k - 1) :: (L.drop i).take k) := by unfold Hid pieceR; rw [if_neg (by omega)]; rfl
            have HX2 := Lib.hid (HEx.out i k hk3)
            clear hT hT0 hln
            go_wp2_with fail
            ((with_reducible refine (HB1.out _ HBd.out HBl.out.size).mono ?_); rintro e w2 ⟨rfl, hbd2, hb2⟩)
            have HBd2 := Lib.hid hbd2
            have HBl2 := Lib.hid (HBl.out.trans hb2)
            have HR3 := Lib.hid (HR2.out.below hb2 (by omega))
            clear hbd2 hb2 HBl HBd HR2 t1 l2 HB1
            go_wp2_with fail
            ((with_reducible refine (bx_write HBd2.out _ (by rw [List.length_append, ByteArray.size_extract]; simp; omega) HBl2.out.size).mono ?_); rintro e w3 ⟨rfl, hbd3, hb3⟩)
            have HBd3 := Lib.hid hbd3
            have HBl3 := Lib.hid (HBl2.out.trans hb3)
            have HR4 := Lib.hid (HR3.out.below hb3 (by omega))
            clear hbd3 hb3 HBl2 HBd2 HR3
            go_wp2_with fail
            go_roundw
            case rel =>
              refine ⟨i + k, acc ++ [UInt8.ofNat (k - 1)] ++ (s.extract i (i + k)).data.toList, by omega, by go_num, ?_, ?_, HR4.out, HBd3.out, HBl3.out⟩
              · rw [HX2.out]; simp; omega
              · rw [← HE.out, HEm.out, HP.out, HX2.out]
                simp
            case measure => simp [intOf]; omega
        · have hil : i = s.size := by omega
          subst hil
          have HEl : Hid (acc = encR L) := by
            have := HE.out
            rw [show List.drop s.size L = [] by rw [← HL.out, List.drop_length], encR_nil, List.append_nil] at this
            exact this
          clear HE
          go_wp2_with fail
          ((with_reducible refine (bx_string HBd.out HBl.out.size).mono ?_); rintro e w2 ⟨rfl, hb2⟩)
          have HB2 := Lib.hid hb2
          clear hb2
          go_wp2_with fail
          go_ret
          exact ⟨by rw [← HEl.out]; rfl, HB.out.trans ((HBl.out.trans HB2.out).mono (by omega))⟩
    | succ q =>
      rw [show ((q + 1 : Nat) : Int) - 1 = (q : Int) by omega]
      obtain ⟨x, hx⟩ : ∃ x, L.drop q = x :: L.drop (q + 1) := ⟨_, List.drop_eq_getElem_cons (by omega)⟩
      have hrl : (L.drop (q + 1)).length = s.size - (q + 1) := by rw [List.length_drop, hlen]
      have HX := Lib.hid hx
      have HRL := Lib.hid hrl
      have hn := repN_le (l := L.drop q) (by rw [hx]; simp)
      rw [List.length_drop, hlen] at hn
      have hcl := cellsR_length (L.drop (q + 1))
      rw [hrl] at hcl
      have hce : Hid (cellsR (L.drop q) = pickTo (cellsR (L.drop (q + 1))) (repN (L.drop q)) (min 128 (s.size - q)) :: cellsR (L.drop (q + 1))) := by
        rw [hx, cellsR, hrl, show s.size - (q + 1) + 1 = s.size - q by omega]; rfl
      have HBd : Hid (∀ j, j < s.size - q → bestAt (cellsR (L.drop (q + 1))) j ≤ 2 * s.size) := fun j hj => by
        rw [bestAt_cells (by rw [hrl]; omega)]
        have := cellR_bound ((L.drop (q + 1)).drop j)
        rw [List.length_drop, hrl] at this
        omega
      clear hx hrl
      have HR := Lib.hid (fun W => HRep.out q W (by omega))
      generalize repN (L.drop q) = N at *
      generalize cellsR (L.drop (q + 1)) = rest at *
      go_wp2_with fail
      refine (HR.out _).mono ?_
      rintro e w2 ⟨rfl, hb2⟩
      have G1 := Lib.hid (Row.below H1.out hb2 H1.out.lt)
      have G2 := Lib.hid (Row.below H2.out hb2 H2.out.lt)
      have GB := Lib.hid (HB.out.trans (hb2.mono HB.out.size))
      have hz2 := hb2.size
      clear hb2 H1 H2 HB HR
      have c1 : w2.cell? ⟨w.heap.size + 1, q + N, none⟩ = some (.int .i64 (bestAt rest (N - 1) : Nat)) := by
        have := G1.out.cell (q + 1 + (N - 1)) _ (arrC_at fB (q + 1) rest (N - 1) (by omega))
        rw [show q + 1 + (N - 1) = q + N by omega] at this
        exact this
      have f1 : w2.frozen? ⟨w.heap.size + 1, q, none⟩ = false := G1.out.free q (by rw [arrC_len]; omega)
      have f2 : w2.frozen? ⟨w.heap.size + 1 + 1, q, none⟩ = false := G2.out.free q (by rw [arrC_len]; omega)
      have t1 : w2.cell? ⟨w.heap.size + 1, q, none⟩ = some (.int .i64 0) := G1.out.cell q _ (by unfold arrC; rw [List.getElem?_append_left (by simp)]; simp)
      have t2 : w2.cell? ⟨w.heap.size + 1 + 1, q, none⟩ = some (.int .i64 0) := G2.out.cell q _ (by unfold arrC; rw [List.getElem?_append_left (by simp)]; simp)
      have l1 := G1.out.lt
      have hbd := HBd.out (N - 1) (by omega)
      have l2 := G2.out.lt
      go_upto_region 8 with (fail)
      have k1 : Row (w2.setCell ⟨w.heap.size + 1, q, none⟩ (.int .i64 (2 + (bestAt rest (N - 1) : Nat) : Int))) (w.heap.size + 1) (arrC fB q ((2 + bestAt rest (N - 1), -(N : Int)) :: rest)) := by
        have := G1.out.put (k := q) (by rw [arrC_len]; omega) (fB (2 + bestAt rest (N - 1), -(N : Int)))
        rw [arrC_set] at this
        exact this
      have k2 := G2.out.far (p := ⟨w.heap.size + 1, q, none⟩) (by simp) (.int .i64 (2 + (bestAt rest (N - 1) : Nat) : Int))
      have kb := GB.out.setCell (p := ⟨w.heap.size + 1, q, none⟩) (by simp) (.int .i64 (2 + (bestAt rest (N - 1) : Nat) : Int))
      have kz : w.heap.size + 3 ≤ (w2.setCell ⟨w.heap.size + 1, q, none⟩ (.int .i64 (2 + (bestAt rest (N - 1) : Nat) : Int))).heap.size := by simp; omega
      have J1 := Lib.hid k1
      have J2 := Lib.hid k2
      have JB := Lib.hid kb
      clear k1 k2 kb c1 f1 f2 t1 t2 l1 l2 G1 G2 GB
      generalize w2.setCell ⟨w.heap.size + 1, q, none⟩ _ = w3 at *
      have f2 : w3.frozen? ⟨w.heap.size + 1 + 1, q, none⟩ = false := J2.out.free q (by rw [arrC_len]; omega)
      have t2 : w3.cell? ⟨w.heap.size + 1 + 1, q, none⟩ = some (.int .i64 0) := J2.out.cell q _ (by unfold arrC; rw [List.getElem?_append_left (by simp)]; simp)
      have l2 := J2.out.lt
      go_upto_region 9 with (fail)
      have k1 := J1.out.far (p := ⟨w.heap.size + 1 + 1, q, none⟩) (by simp) (.int .i64 (-(N : Int)))
      have k2 : Row (w3.setCell ⟨w.heap.size + 1 + 1, q, none⟩ (.int .i64 (-(N : Int)))) (w.heap.size + 1 + 1) (arrC fT q ((2 + bestAt rest (N - 1), -(N : Int)) :: rest)) := by
        have := J2.out.put (k := q) (by rw [arrC_len]; omega) (fT (2 + bestAt rest (N - 1), -(N : Int)))
        rw [arrC_set] at this
        exact this
      have kb := JB.out.setCell (p := ⟨w.heap.size + 1 + 1, q, none⟩) (by simp; omega) (.int .i64 (-(N : Int)))
      have kz4 : w.heap.size + 3 ≤ (w3.setCell ⟨w.heap.size + 1 + 1, q, none⟩ (.int .i64 (-(N : Int)))).heap.size := by simp; omega
      have I1 := Lib.hid k1
      have I2 := Lib.hid k2
      have IB := Lib.hid kb
      clear k1 k2 kb f2 t2 l2 J1 J2 JB
      generalize w3.setCell ⟨w.heap.size + 1 + 1, q, none⟩ _ = w4 at *
      clear kz hz2 hbd
      have hbd0 := HBd.out 0 (by omega)
      go_upto_if 49 with (fail)
      go_cut [] (fun wx => Row wx (w.heap.size + 1) (arrC fB q (pickTo rest N 0 :: rest)) ∧ Row wx (w.heap.size + 1 + 1) (arrC fT q (pickTo rest N 0 :: rest)) ∧ Below w.heap.size w wx ∧ w.heap.size + 3 ≤ wx.heap.size)
      case first =>
        by_cases hN1 : N = 1
        · have g1 : ((N : Int) == 1) = true := by simpa using (by omega : (N : Int) = 1)
          have hp : pickTo rest N 0 = (2 + bestAt rest 0, 1) := if_pos hN1
          have hN0 : N - 1 = 0 := by omega
          rw [hN0] at I1 I2
          have c2 : w4.cell? ⟨w.heap.size + 1, q + 1, none⟩ = some (.int .i64 (bestAt rest 0 : Nat)) := by
            have := I1.out.cell (q + 1) _ (arrC_at fB q _ 1 (by simp; omega))
            exact this
          have f1 := I1.out.free q (by rw [arrC_len]; simp)
          have l1 := I1.out.lt
          have f2 := I2.out.free q (by rw [arrC_len]; simp)
          have l2 := I2.out.lt
          have t1 : w4.cell? ⟨w.heap.size + 1, q, none⟩ = some (.int .i64 (2 + bestAt rest 0 : Nat)) := I1.out.cell (q + 0) _ (arrC_at fB q _ 0 (by simp))
          have t2 : w4.cell? ⟨w.heap.size + 1 + 1, q, none⟩ = some (.int .i64 (-(N : Int))) := I2.out.cell (q + 0) _ (arrC_at fT q _ 0 (by simp))
          have HP := Lib.hid hp
          clear hp hN0 hN1
          go_wp2_with fail
          go_meet
          refine ⟨?_, ?_, (IB.out.setCell (p := ⟨w.heap.size + 1, q, none⟩) (by simp) _).setCell (p := ⟨w.heap.size + 1 + 1, q, none⟩) (by simp; omega) _, by simp; omega⟩
          · rw [HP.out]
            have := (I1.out.put (k := q) (by rw [arrC_len]; simp) (fB (2 + bestAt rest 0, 1))).far (p := ⟨w.heap.size + 1 + 1, q, none⟩) (by simp) (.int .i64 1)
            rw [arrC_put] at this
            exact this
          · rw [HP.out]
            have := (I2.out.far (p := ⟨w.heap.size + 1, q, none⟩) (by simp) (.int .i64 (2 + (bestAt rest 0 : Nat) : Int))).put (k := q) (by rw [arrC_len]; simp) (fT (2 + bestAt rest 0, 1))
            rw [arrC_put] at this
            exact this
        · have g1 : ((N : Int) == 1) = false := by simpa using (by omega : ¬ (N : Int) = 1)
          have hp : pickTo rest N 0 = (2 + bestAt rest (N - 1), -(N : Int)) := if_neg hN1
          rw [← hp] at I1 I2
          clear hp hN1
          go_wp2_with fail
          go_meet
          exact ⟨I1.out, I2.out, IB.out, kz4⟩
      case rest =>
      obtain ⟨e1, e2, eb, kz5⟩ := hcut
      have E1 := Lib.hid e1
      have E2 := Lib.hid e2
      have EB := Lib.hid eb
      clear e1 e2 eb I1 I2 IB kz4
      have hK := hn.2.2
      clear hbd0
      generalize hM : min 128 (s.size - q) = M at *
      have hM1 : M ≤ 128 := by omega
      have hM2 : q + M ≤ s.size := by omega
      have HM : Hid (∀ k, k < 128 → q + k < s.size → k < M) := fun k _ _ => by omega
      clear hM
      go_wp2_with fail
      go_loopw [9, 10] (fun v9 _ wi => ∃ k : Nat, k ≤ M ∧ v9 = .int .i64 (k + 1 : Nat) ∧ Row wi (w.heap.size + 1) (arrC fB q (pickTo rest N k :: rest)) ∧ Row wi (w.heap.size + 1 + 1) (arrC fT q (pickTo rest N k :: rest)) ∧ Below w.heap.size w wi ∧ w.heap.size + 3 ≤ wi.heap.size) (fun v9 _ _ => 200 - (intOf v9).toNat)
      case atStart => exact ⟨0, Nat.zero_le _, rfl, E1.out, E2.out, EB.out, kz5⟩
      case round =>
        obtain ⟨k, hk, rfl, q1, q2, hbr, hzi⟩ := hrel
        have A1 := Lib.hid q1
        have A2 := Lib.hid q2
        have AB := Lib.hid hbr
        clear q1 q2 hbr E1 E2 EB kz5
        by_cases hlt : k < M
        · have g2 : decide (((k : Int) + 1) ≤ 128) = true := by simp; omega
          have g3 : decide ((q : Int) + ((k : Int) + 1) ≤ (s.size : Int)) = true := by simp; omega
          have hbk := HBd.out k (by omega)
          have c1 : wr.cell? ⟨w.heap.size + 1, q + (k + 1), none⟩ = some (.int .i64 (bestAt rest k : Nat)) := A1.out.cell (q + (k + 1)) _ (arrC_at fB q _ (k + 1) (by simp; omega))
          have t1 : wr.cell? ⟨w.heap.size + 1, q, none⟩ = some (.int .i64 ((pickTo rest N k).1 : Nat)) := A1.out.cell (q + 0) _ (arrC_at fB q _ 0 (by simp))
          have t2 : wr.cell? ⟨w.heap.size + 1 + 1, q, none⟩ = some (.int .i64 (pickTo rest N k).2) := A2.out.cell (q + 0) _ (arrC_at fT q _ 0 (by simp))
          have f1 := A1.out.free q (by rw [arrC_len]; simp)
          have f2 := A2.out.free q (by rw [arrC_len]; simp)
          have l1 := A1.out.lt
          have l2 := A2.out.lt
          have HPk : Hid (pickTo rest N (k + 1) = if 1 + (k + 1) + bestAt rest k < (pickTo rest N k).1 then (1 + (k + 1) + bestAt rest k, ((k + 1 : Nat) : Int)) else pickTo rest N k) := rfl
          generalize pickTo rest N k = pk at *
          by_cases hc : 1 + (k + 1) + bestAt rest k < pk.1
          · have g4 : decide ((1 : Int) + ((k : Int) + 1) + (bestAt rest k : Nat) < (pk.1 : Nat)) = true := by simp; omega
            have hp1 : Hid (pickTo rest N (k + 1) = (1 + (k + 1) + bestAt rest k, ((k + 1 : Nat) : Int))) := by have := HPk.out; rw [if_pos hc] at this; exact this
            have HV : Hid ((1 : Int) + ((k : Int) + 1) + (bestAt rest k : Nat) = ((1 + (k + 1) + bestAt rest k : Nat) : Int)) := by unfold Hid; omega
            clear hc
            go_wp2_with fail
            go_roundw
            case rel =>
              refine ⟨k + 1, by omega, by go_num, ?_, ?_, (AB.out.setCell (p := ⟨w.heap.size + 1, q, none⟩) (by simp) _).setCell (p := ⟨w.heap.size + 1 + 1, q, none⟩) (by simp; omega) _, by simp; omega⟩
              · rw [hp1.out, HV.out]
                have := (A1.out.put (k := q) (by rw [arrC_len]; simp) (fB (1 + (k + 1) + bestAt rest k, ((k + 1 : Nat) : Int)))).far (p := ⟨w.heap.size + 1 + 1, q, none⟩) (by simp) (.int .i64 ((k : Int) + 1))
                rw [arrC_put] at this
                exact this
              · rw [hp1.out]
                have := (A2.out.far (p := ⟨w.heap.size + 1, q, none⟩) (by simp) (.int .i64 ((1 : Int) + ((k : Int) + 1) + (bestAt rest k : Nat)))).put (k := q) (by rw [arrC_len]; simp) (fT (1 + (k + 1) + bestAt rest k, ((k + 1 : Nat) : Int)))
                rw [arrC_put] at this
                exact this
            case measure => simp [intOf]; omega
          · have g4 : decide ((1 : Int) + ((k : Int) + 1) + (bestAt rest k : Nat) < (pk.1 : Nat)) = false := by simp; omega
            have hp1 : Hid (pickTo rest N (k + 1) = pk) := by have := HPk.out; rw [if_neg hc] at this; exact this
            clear hc
            go_wp2_with fail
            go_roundw
            case rel => exact ⟨k + 1, by omega, by go_num, by rw [hp1.out]; exact A1.out, by rw [hp1.out]; exact A2.out, AB.out, hzi⟩
            case measure => simp [intOf]; omega
        · have hkM : k = M := by omega
          subst hkM
          have hend : Hid (cellsR (L.drop q) = pickTo rest N k :: rest) := hce
          by_cases g2 : k + 1 ≤ 128
          · have g2 : decide (((k : Int) + 1) ≤ 128) = true := by simp; omega
            have g3 : decide ((q : Int) + ((k : Int) + 1) ≤ (s.size : Int)) = false := by
              have := fun h => HM.out k (by omega) h
              simp; omega
            go_wp2_with fail
            go_roundw
            case rel => exact ⟨trivial, q, by omega, rfl, by rw [hend.out]; exact A1.out, by rw [hend.out]; exact A2.out, AB.out, hzi⟩
            case measure => simp [intOf]
          · have g2 : decide (((k : Int) + 1) ≤ 128) = false := by simp; omega
            go_wp2_with fail
            go_roundw
            case rel => exact ⟨trivial, q, by omega, rfl, by rw [hend.out]; exact A1.out, by rw [hend.out]; exact A2.out, AB.out, hzi⟩
            case measure => simp [intOf]
end Go.Proofs.Ytdibgloaknnfgaa
