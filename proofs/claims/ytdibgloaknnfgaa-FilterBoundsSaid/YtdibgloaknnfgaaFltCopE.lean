/- The walk of copies.encode. -/
import Derived.Test.YtdibgloaknnfgaaPqW
namespace Go.Proofs.Ytdibgloaknnfgaa
open Go.RowKit
open Pq (Pk FrX)
theorem matchN_eq (S : List UInt8) : ∀ (m i a k : Nat), k ≤ m → (∀ j, j < k → i + j < S.length ∧ S.getD (i + j) 0 = S.getD (a + j) 0) → (k = m ∨ ¬ (i + k < S.length ∧ S.getD (i + k) 0 = S.getD (a + k) 0)) → matchN S i a m = k
  | 0, i, a, k, h, _, _ => by simp only [matchN]; omega
  | m + 1, i, a, 0, _, _, h3 => by
    simp only [matchN]
    rw [if_neg (fun h => by rcases h3 with h3 | h3; omega; exact h3 (by simpa using h))]
  | m + 1, i, a, k + 1, h1, h2, h3 => by
    simp only [matchN]
    have h0 := h2 0 (by omega)
    rw [Nat.add_zero, Nat.add_zero] at h0
    have e1 : ∀ j, j < k → i + 1 + j < S.length ∧ S.getD (i + 1 + j) 0 = S.getD (a + 1 + j) 0 := fun j hj => by
      have := h2 (j + 1) (by omega)
      rwa [← Nat.add_assoc, ← Nat.add_assoc, Nat.add_right_comm i j 1, Nat.add_right_comm a j 1] at this
    rw [if_pos h0, matchN_eq S m (i + 1) (a + 1) k (by omega) e1 ?_]
    · rcases h3 with h3 | h3
      · exact .inl (by omega)
      · refine .inr fun h => h3 ?_
        rwa [← Nat.add_assoc, ← Nat.add_assoc, Nat.add_right_comm i k 1, Nat.add_right_comm a k 1]
theorem LM.block {b n : Nat} {last : Last} {w w' : World} (h : LM b n last w) (hb : w'.heap[b]? = w.heap[b]?) : LM b n last w' := by
  obtain ⟨D, ⟨es, clock, h1, r⟩, h2⟩ := h
  exact ⟨D, ⟨es, clock, hb.trans h1, r⟩, h2⟩
theorem LM.lt {b n : Nat} {last : Last} {w : World} (h : LM b n last w) : b < w.heap.size := MapV.lt h
def candO (L : List UInt8) (i : Nat) : Option Nat → Nat × Nat
  | some p => if i - p < 65536 then (matchN L i p 130, p) else (0, 0)
  | none => (0, 0)
theorem cand_at {L : List UInt8} {last : Last} {i : Nat} {K : List UInt8} (h : i + 4 ≤ L.length) (hk : key L i = K) : cand L last i = candO L i (last K) := by
  unfold cand
  rw [if_pos h, hk]
  cases last K <;> rfl
/-- What copies.encode has in memory: the string's box, the map and its box, the builder. -/
structure CE (s : ByteArray) (h m : Nat) (acc : List UInt8) (last : Last) (w0 w : World) : Prop where
  cs : w.cell? ⟨h + 1, 0, none⟩ = some (.string s)
  cm : w.cell? ⟨h + 1 + 1 + 1 + 1, 0, none⟩ = some (.map (some (h + 1 + 1 + 1)))
  map : LM (h + 1 + 1 + 1) m last w
  pk : Pk (h + 5) (h + 1 + 1) acc w
  bl : Below h w0 w
  sz : h + 5 ≤ w.heap.size
theorem CE.below {s : ByteArray} {h m : Nat} {acc : List UInt8} {last : Last} {w0 w w' : World} (H : CE s h m acc last w0 w) (hb : Below w.heap.size w w') : CE s h m acc last w0 w' :=
  ⟨(hb.cell (p := ⟨h + 1, 0, none⟩) (by have := H.sz; simp; omega)).trans H.cs, (hb.cell (p := ⟨h + 1 + 1 + 1 + 1, 0, none⟩) (by have := H.sz; simp; omega)).trans H.cm, H.map.later hb, Pq.pk_below H.pk hb, H.bl.trans (hb.mono (by have := H.sz; omega)), Nat.le_trans H.sz hb.size⟩
theorem CE.note {s : ByteArray} {h m m' : Nat} {acc : List UInt8} {last last' : Last} {w0 w w' : World} (H : CE s h m acc last w0 w) (hm : LM (h + 1 + 1 + 1) m' last' w') (hg : w.grownBy w' (some (h + 1 + 1 + 1))) : CE s h m' acc last' w0 w' :=
  ⟨(grown_cell hg (p := ⟨h + 1, 0, none⟩) (by have := H.sz; simp; omega) (by simp)).trans H.cs, (grown_cell hg (p := ⟨h + 1 + 1 + 1 + 1, 0, none⟩) (by have := H.sz; simp; omega) (by simp)).trans H.cm, hm,
    Pq.pk_keep H.pk (fun k hk h2 => hg.block k hk (by simp; omega)), H.bl.grown hg (by have := H.sz; omega) (fun k hk => by injection hk with hk; omega), Nat.le_trans H.sz hg.size⟩
theorem CE.write {s : ByteArray} {h m : Nat} {acc acc' : List UInt8} {last : Last} {w0 w w' : World} (H : CE s h m acc last w0 w) (hp : Pk (h + 5) (h + 1 + 1) acc' w') (hf : FrX (h + 5) (h + 1 + 1) w w') : CE s h m acc' last w0 w' :=
  ⟨(World.cell?_of_block (w := w) (a := ⟨h + 1, 0, none⟩) (hf.block (h + 1) (by omega) (by omega))).trans H.cs, (World.cell?_of_block (w := w) (a := ⟨h + 1 + 1 + 1 + 1, 0, none⟩) (hf.block (h + 1 + 1 + 1 + 1) (by omega) (by omega))).trans H.cm,
    H.map.block (hf.block _ (by omega) (by omega)), hp, ⟨hf.os.trans H.bl.os, hf.tape.trans H.bl.tape, hf.output.trans H.bl.output, Nat.le_trans H.bl.size hf.size, fun k hk => (hf.block k (by omega) (by omega)).trans (H.bl.block k hk)⟩, Nat.le_trans H.sz hf.size⟩
theorem copy_put {s : ByteArray} {h m : Nat} {acc : List UInt8} {last : Last} {w0 W : World} (H : CE s h m acc last w0 W) (N i a : Nat) (hN : N ≤ 130) (ha : a < i) (hd : i - a < 65536) (hl : acc.length ≤ 9000000) :
    Calls Try.prog 55 #[.pointer (some ⟨h + 1 + 1, 0, none⟩), .slice (some ⟨W.heap.size, 0, none⟩) 3 3] (W.alloc (.cells #[.int .u8 ((N : Int) + 125), .int .u8 (((i : Int) - (a : Int)) / 256), .int .u8 (((i : Int) - (a : Int)) % 256)] 5))
      fun e w' => e = .returned (.tuple #[.int .i64 3, .nilIface]) ∧ CE s h m (acc ++ copyB N (i - a)) last w0 w' := by
  have e1 : (N : Int) + 125 = ((UInt8.ofNat (N + 125)).toNat : Int) := by rw [UInt8.toNat_ofNat']; omega
  have e2 : ((i : Int) - (a : Int)) / 256 = ((UInt8.ofNat ((i - a) / 256)).toNat : Int) := by rw [UInt8.toNat_ofNat']; omega
  have e3 : ((i : Int) - (a : Int)) % 256 = ((UInt8.ofNat (i - a)).toNat : Int) := by rw [UInt8.toNat_ofNat']; omega
  rw [e1, e2, e3]
  have hb := Blk.new W 5 #[.int .u8 ((UInt8.ofNat (N + 125)).toNat : Int), .int .u8 ((UInt8.ofNat ((i - a) / 256)).toNat : Int), .int .u8 ((UInt8.ofNat (i - a)).toNat : Int)]
  have hr : BRow _ W.heap.size (copyB N (i - a)) := hb.row
  have H2 := H.below (w' := W.alloc (.cells #[.int .u8 ((UInt8.ofNat (N + 125)).toNat : Int), .int .u8 ((UInt8.ofNat ((i - a) / 256)).toNat : Int), .int .u8 ((UInt8.ofNat (i - a)).toNat : Int)] 5)) ((Below.refl _ _).alloc (Nat.le_refl _) _)
  refine (Pq.pk_put H2.pk (copyB N (i - a)) W.heap.size 3 hr (by have := H.sz; omega) (by simp [copyB]) (by simp [copyB]; omega) H2.sz).mono ?_
  rintro e w' ⟨rfl, h1, h2⟩
  exact ⟨rfl, H2.write h1 h2⟩
set_option maxRecDepth 100000 in
set_option maxHeartbeats 8000000 in
theorem copies_enc (s : ByteArray) (w : World) (hs : s.size ≤ 1000000) :
    Calls Try.prog 52 #[.agg #[], .string s] w fun e w' => e = .returned (.string ⟨(encC s.data.toList).toArray⟩) ∧ Below w.heap.size w w' := by
  have hmm := @run_makeMap Try.prog
  have hlen : s.data.toList.length = s.size := by simp
  have HL := Lib.hid hlen
  have HBy : Hid (∀ j (h : j < s.size), s[j]'h = s.data.toList.getD j 0) := fun j h => sbyte s j h
  have HEx : Hid (∀ i k, i ≤ k → k ≤ s.size → (s.extract i k).data.toList = (s.data.toList.take k).drop i) := fun i k h1 h2 => by rw [Lib.extract_data, List.take_drop, Nat.add_sub_cancel' h1]
  have HS : Hid (encCF s.data.toList s.size 0 0 (fun _ => none) = encC s.data.toList) := by unfold Hid encC; rw [hlen]
  have HNt : Hid (∀ W b n i (last : Last), CE s w.heap.size n b last w W → i ≤ s.size → n < 1000000000 → Calls Try.prog 53 #[.int .i64 (i : Int), .pointer (some ⟨w.heap.size + 1, 0, none⟩), .pointer (some ⟨w.heap.size + 1 + 1 + 1 + 1, 0, none⟩)] W fun e w' => e = .returned (.tuple #[]) ∧ CE s w.heap.size (n + 1) b (noteF s.data.toList last i) w w') := fun W b n i last H hi hn => by
    refine (note_any s (w.heap.size + 1) (w.heap.size + 1 + 1 + 1 + 1) (w.heap.size + 1 + 1 + 1) n i last W hs hi H.cs H.cm H.map hn (by have := H.sz; omega) (by have := H.sz; omega)).mono ?_
    rintro e w' ⟨rfl, h1, h2⟩
    exact ⟨rfl, H.note h1 h2⟩
  clear hlen
  generalize hE : encC s.data.toList = E at *
  clear hE
  generalize s.data.toList = L at *
  go_enter Try.func52, Try.ntmps52
  go_wp2
  have hw1 : Hid (∀ W : World, W = (((((w.alloc (Obj.cells #[] 46)).alloc (Obj.cells #[Value.string s] 9)).alloc (Obj.cells #[Value.pointer none, Value.slice none 0 0] 66)).alloc (Obj.map #[] 0)).alloc (Obj.cells #[Value.map (some (w.heap.size + 1 + 1 + 1))] 86)) → CE s w.heap.size 0 [] (fun _ => none) w W) := by
    rintro W rfl
    have b1 := Blk.new (w.alloc (Obj.cells #[] 46)) 9 #[Value.string s]
    have b2 := Blk.new ((w.alloc (Obj.cells #[] 46)).alloc (Obj.cells #[Value.string s] 9)) 66 #[Value.pointer none, Value.slice none 0 0]
    have b3 := MapV.made (((w.alloc (Obj.cells #[] 46)).alloc (Obj.cells #[Value.string s] 9)).alloc (Obj.cells #[Value.pointer none, Value.slice none 0 0] 66)) Try.prog 87
    have b4 := Blk.new ((((w.alloc (Obj.cells #[] 46)).alloc (Obj.cells #[Value.string s] 9)).alloc (Obj.cells #[Value.pointer none, Value.slice none 0 0] 66)).alloc (Obj.map #[] 0)) 86 #[Value.map (some (w.heap.size + 1 + 1 + 1))]
    have d1 := (((b1.alloc (Obj.cells #[Value.pointer none, Value.slice none 0 0] 66)).alloc (Obj.map #[] 0)).alloc (Obj.cells #[Value.map (some (w.heap.size + 1 + 1 + 1))] 86)).cell 0
    have d2 := (b2.alloc (Obj.map #[] 0)).alloc (Obj.cells #[Value.map (some (w.heap.size + 1 + 1 + 1))] 86)
    have d3 := b3.later (((Below.refl _ _).alloc (Nat.le_refl _) (Obj.cells #[Value.map (some (w.heap.size + 1 + 1 + 1))] 86)))
    have d4 := b4.cell 0
    simp at d1 d4
    rw [show ((w.alloc (Obj.cells #[] 46)).alloc (Obj.cells #[Value.string s] 9)).heap.size = w.heap.size + 1 + 1 by simp] at d2
    refine ⟨d1, d4, ?_, Pq.pk_fresh d2, ((((((Below.refl w.heap.size w).alloc (Nat.le_refl _) _).alloc (by simp) _).alloc (by simp; omega) _).alloc (by simp; omega) _).alloc (by simp; omega) _), by simp⟩
    refine MapV.ext (F := fun _ => none) (by simpa using d3) (fun l _ => ?_)
    cases l <;> rfl
  have h1 := Lib.hid (hw1.out _ rfl)
  clear hw1
  generalize (((((w.alloc (Obj.cells #[] 46)).alloc (Obj.cells #[Value.string s] 9)).alloc (Obj.cells #[Value.pointer none, Value.slice none 0 0] 66)).alloc (Obj.map #[] 0)).alloc (Obj.cells #[Value.map (some (w.heap.size + 1 + 1 + 1))] 86)) = w1 at *
  go_loopw [7, 9, 10, 11, 12, 13] (fun v7 v9 _ _ _ _ wr => ∃ (i q m f : Nat) (acc : List UInt8) (last : Last), i ≤ s.size ∧ q ≤ i ∧ m ≤ i ∧ v7 = .int .i64 q ∧ v9 = .int .i64 i ∧ acc.length ≤ 2 * q ∧ s.size ≤ f + i ∧ acc ++ encCF L f i q last = E ∧ LastOk L i last ∧ CE s w.heap.size m acc last w wr) (fun _ v9 _ _ _ _ _ => s.size - (intOf v9).toNat)
  case atStart => exact ⟨0, 0, 0, s.size, [], fun _ => none, Nat.zero_le _, Nat.le_refl _, Nat.le_refl _, rfl, rfl, by simp, by omega, HS.out, (fun k p e => by cases e), h1.out⟩
  case round =>
    obtain ⟨i, q, m, f, acc, last, hi, hqi, hmi, rfl, rfl, hal, hf, he, hlo, hce⟩ := hrel
    have HE := Lib.hid he
    have HLo := Lib.hid hlo
    have HC := Lib.hid hce
    have k1 := hce.cs
    have k2 := hce.cm
    have k3 := hce.sz
    clear he hlo hce h1 HS
    by_cases hlt : i < s.size
    · have g0 : decide ((i : Int) < (s.size : Int)) = true := by simp; omega
      go_upto_if 24 with (fail)
      go_cut [10, 11] (fun v10 v11 wx => ∃ a : Nat, v10 = .int .i64 ((cand L last i).1 : Nat) ∧ v11 = .int .i64 a ∧ ((cand L last i).1 ≠ 0 → a = (cand L last i).2) ∧ CE s w.heap.size m acc last w wx)
      case first =>
        by_cases h4 : i + 4 ≤ s.size
        · have g1 : decide ((i : Int) + 4 ≤ (s.size : Int)) = true := by simp; omega
          obtain ⟨x, y, z, u, hk⟩ : ∃ x y z u, key L i = [x, y, z, u] := by
            have hl : (key L i).length = 4 := by unfold key; rw [List.length_take, List.length_drop, HL.out]; omega
            match hq : key L i, hl with
            | [x, y, z, u], _ => exact ⟨x, y, z, u, rfl⟩
          have hex : (s.extract i (i + 4)).data.toList = [x, y, z, u] := by
            rw [HEx.out i (i + 4) (by omega) h4, ← hk]
            unfold key
            rw [List.drop_take, Nat.add_sub_cancel_left]
          have hsz : (s.extract i (i + 4)).size = 4 := by rw [ByteArray.size_extract]; omega
          have HCd : Hid (cand L last i = candO L i (last [x, y, z, u])) := cand_at (by rw [HL.out]; exact h4) hk
          have hLs : ∀ p, last [x, y, z, u] = some p → p < i := fun p hp => (HLo.out _ _ hp).1
          have hcv := conv_run (s.extract i (i + 4)) wr.drew
          obtain ⟨q0, q1, q2, q3⟩ := conv_cells (s.extract i (i + 4)) wr.drew x y z u hex
          have hqs : wr.drew.heap.size = wr.heap.size := rfl
          rw [hqs] at q0 q1 q2 q3
          have hbl : Below wr.heap.size wr (conv (s.extract i (i + 4)) wr.drew) := ((Below.refl wr.heap.size wr).drew).trans (conv_below (s.extract i (i + 4)) wr.drew)
          have hc1 := HC.out.below hbl
          have hlk := LM.look hc1.map x y z u
          simp only [k4] at hlk
          have ha := fun cp => run_arrayAt (P := Try.prog) (w := conv (s.extract i (i + 4)) wr.drew) 87 5 4 (some ⟨wr.heap.size, 0, none⟩) 4 cp Try.underlying87 (by omega)
          rw [hsz] at hcv
          have d1 := hc1.cs
          have d2 := hc1.cm
          have HC1 := Lib.hid hc1
          clear hqs hbl hc1 hex hk
          generalize conv (s.extract i (i + 4)) wr.drew = W1 at *
          cases hq : last [x, y, z, u] with
          | none =>
            rw [hq] at hlk
            simp only [Option.getD_none, Option.isSome_none] at hlk
            have HCd0 : Hid (cand L last i = (0, 0)) := by rw [HCd.out, hq]; rfl
            clear hq hLs
            go_wp2_with fail
            go_region
            go_wp2_with fail
            go_meet
            exact ⟨0, by rw [HCd0.out]; rfl, rfl, fun h => absurd (by rw [HCd0.out]) h, HC1.out⟩
          | some p =>
            rw [hq] at hlk
            simp only [Option.getD_some, Option.isSome_some] at hlk
            have hpi := hLs p hq
            have HCd1 : Hid (cand L last i = if i - p < 65536 then (matchN L i p 130, p) else (0, 0)) := by rw [HCd.out, hq]; rfl
            clear hq hLs
            by_cases hd : i - p < 65536
            · have g2 : decide ((i : Int) - (p : Int) < 65536) = true := by simp; omega
              have HCd2 : Hid (cand L last i = (matchN L i p 130, p)) := by rw [HCd1.out, if_pos hd]; rfl
              go_wp2_with fail
              go_region
              have HMt : Hid (∀ k, k ≤ 130 → (∀ j, j < k → i + j < s.size ∧ L.getD (i + j) 0 = L.getD (p + j) 0) → (k = 130 ∨ ¬ (i + k < s.size ∧ L.getD (i + k) 0 = L.getD (p + k) 0)) → (cand L last i).1 = k) := fun k h1 h2 h3 => by
                rw [HCd2.out]
                exact matchN_eq L 130 i p k h1 (by rw [HL.out]; exact h2) (by rw [HL.out]; exact h3)
              have HCp : Hid ((cand L last i).2 = p) := by unfold Hid; rw [HCd2.out]
              clear hcv q0 q1 q2 q3 hlk ha d1 d2 g2 HCd HCd1 HCd2 hmm k1 k2 k3
              go_wp2_with fail
              go_loopw [10] (fun v10 wi => ∃ k : Nat, v10 = .int .i64 k ∧ k ≤ 130 ∧ (∀ j, j < k → i + j < s.size ∧ L.getD (i + j) 0 = L.getD (p + j) 0) ∧ CE s w.heap.size m acc last w wi) (fun v10 _ => 130 - (intOf v10).toNat)
              case atStart => exact ⟨0, rfl, by omega, fun j hj => absurd hj (by omega), HC1.out⟩
              case round =>
                obtain ⟨k, rfl, hk1, hk2, hce2⟩ := hrel
                have HK := Lib.hid hk2
                have HC2 := Lib.hid hce2
                have b1 := hce2.cs
                have b3 := hce2.sz
                clear hk2 hce2 HC1
                by_cases c1 : k < 130
                · have t1 : decide ((k : Int) < 130) = true := by simp; omega
                  by_cases c2 : i + k < s.size
                  · have t2 : decide ((i : Int) + (k : Int) < (s.size : Int)) = true := by simp; omega
                    have y1 := HBy.out (i + k) c2
                    have y2 := HBy.out (p + k) (by omega)
                    have e1 : IntKind.i64.wrap ((i : Int) + (k : Int)) = (i : Int) + (k : Int) := IntWalk.i64_in _ (by omega)
                    have e2 : IntKind.i64.wrap ((p : Int) + (k : Int)) = (p : Int) + (k : Int) := IntWalk.i64_in _ (by omega)
                    have x1 := fun W => index_at s ((i : Int) + (k : Int)) (i + k) c2 (by omega) W
                    have x2 := fun W => index_at s ((p : Int) + (k : Int)) (p + k) (by omega) (by omega) W
                    rw [y1] at x1
                    rw [y2] at x2
                    clear y1 y2
                    have HK2 := HK.out
                    by_cases c3 : L.getD (i + k) 0 = L.getD (p + k) 0
                    · have HK3 : Hid (∀ j, j < k + 1 → i + j < s.size ∧ L.getD (i + j) 0 = L.getD (p + j) 0) := fun j hj => by
                        rcases Nat.lt_or_ge j k with h | h
                        · exact HK2 j h
                        · rw [show j = k by omega]; exact ⟨c2, c3⟩
                      have t3 : (((L.getD (i + k) 0).toNat : Int) == ((L.getD (p + k) 0).toNat : Int)) = true := by rw [c3]; simp
                      clear c3 HK2
                      generalize L.getD (i + k) 0 = B1 at *
                      generalize L.getD (p + k) 0 = B2 at *
                      go_wp2_with fail
                      go_quiet (fail)
                      clear e1 e2 x1 x2
                      go_wp2_with fail
                      go_roundw
                      case rel => exact ⟨k + 1, by go_num, by omega, HK3.out, HC2.out.below (below_drewN (Below.refl _ _) _)⟩
                      case measure => simp [intOf]; omega
                    · have HMe : Hid ((cand L last i).1 = k) := HMt.out k hk1 HK2 (.inr fun h => c3 h.2)
                      have t3 : (((L.getD (i + k) 0).toNat : Int) == ((L.getD (p + k) 0).toNat : Int)) = false := by
                        refine beq_eq_false_iff_ne.2 fun e => c3 (UInt8.toNat_inj.1 (by omega))
                      clear c3 HK2
                      generalize L.getD (i + k) 0 = B1 at *
                      generalize L.getD (p + k) 0 = B2 at *
                      go_wp2_with fail
                      go_quiet (fail)
                      clear e1 e2 x1 x2
                      go_wp2_with fail
                      go_meet
                      exact ⟨p, by rw [HMe.out], rfl, fun _ => HCp.out.symm, HC2.out.below (below_drewN (Below.refl _ _) _)⟩
                  · have t2 : decide ((i : Int) + (k : Int) < (s.size : Int)) = false := by simp; omega
                    have e1 : IntKind.i64.wrap ((i : Int) + (k : Int)) = (i : Int) + (k : Int) := IntWalk.i64_in _ (by omega)
                    have HMe : Hid ((cand L last i).1 = k) := HMt.out k hk1 HK.out (.inr fun h => c2 h.1)
                    go_wp2_with fail
                    go_quiet (fail)
                    clear e1
                    go_wp2_with fail
                    go_meet
                    exact ⟨p, by rw [HMe.out], rfl, fun _ => HCp.out.symm, HC2.out.below (below_drewN (Below.refl _ _) _)⟩
                · have t1 : decide ((k : Int) < 130) = false := by simp; omega
                  have HMe : Hid ((cand L last i).1 = k) := HMt.out k hk1 HK.out (.inl (by omega))
                  go_wp2_with fail
                  go_quiet (fail)
                  go_wp2_with fail
                  go_meet
                  exact ⟨p, by rw [HMe.out], rfl, fun _ => HCp.out.symm, HC2.out.below (below_drewN (Below.refl _ _) _)⟩
            · have g2 : decide ((i : Int) - (p : Int) < 65536) = false := by simp; omega
              have HCd2 : Hid (cand L last i = (0, 0)) := by rw [HCd1.out, if_neg hd]; rfl
              go_wp2_with fail
              go_region
              go_wp2_with fail
              go_meet
              exact ⟨0, by rw [HCd2.out]; rfl, rfl, fun h => absurd (by rw [HCd2.out]) h, HC1.out⟩
        · have g1 : decide ((i : Int) + 4 ≤ (s.size : Int)) = false := by simp; omega
          have HCd : Hid (cand L last i = (0, 0)) := by unfold Hid cand; rw [if_neg (by rw [HL.out]; exact h4)]
          go_wp2_with fail
          go_meet
          exact ⟨0, by rw [HCd.out]; rfl, rfl, fun h => absurd (by rw [HCd.out]) h, HC.out⟩
      case rest =>
      obtain ⟨a, rfl, rfl, haa, hce⟩ := hcut
      clear HC k1 k2 k3
      have HC := Lib.hid hce
      have k1 := hce.cs
      have k2 := hce.cm
      have k3 := hce.sz
      obtain ⟨f', hf'⟩ : ∃ f', f = f' + 1 := ⟨f - 1, by omega⟩
      subst hf'
      have he0 : acc ++ encCF L (f' + 1) i q last = E := HE.out
      simp only [encCF] at he0
      rw [if_neg (by rw [HL.out]; omega)] at he0
      by_cases hn0 : (cand L last i).1 = 0
      · rw [if_pos hn0] at he0
        have g1 : (((cand L last i).1 : Int) == 0) = true := by rw [hn0]; rfl
        have HE2 := Lib.hid he0
        clear he0 HE hn0 hce haa
        generalize (cand L last i).1 = N at *
        go_wp2_with fail
        ((with_reducible refine (HNt.out _ acc m i last HC.out hi (by omega)).mono ?_); rintro e w2 ⟨rfl, hce2⟩)
        have HC2 := Lib.hid hce2
        clear hce2 HC
        go_wp2_with fail
        go_roundw
        case rel => exact ⟨i + 1, q, m + 1, f', acc, noteF L last i, by omega, by omega, by omega, rfl, by go_num, hal, by omega, HE2.out, HLo.out.note, HC2.out⟩
        case measure => simp [intOf]; omega
      · rw [if_neg hn0] at he0
        obtain ⟨p1, p2, p3, p4, p5, p6⟩ := cand_ok HLo.out hn0
        have haa2 := haa hn0
        rw [← haa2] at he0 p1 p2 p3
        rw [HL.out] at p6
        have g1 : (((cand L last i).1 : Int) == 0) = false := by rw [beq_eq_false_iff_ne]; omega
        have HE2 := Lib.hid he0
        clear he0 HE hn0 hce haa haa2 p3
        generalize (cand L last i).1 = N at *
        have HX := Lib.hid (HEx.out q i hqi hi)
        have hal2 : (acc ++ litC (s.extract q i).data.toList).length ≤ 2 * i := by
          have hl : (s.extract q i).data.toList.length = i - q := by rw [HX.out, List.length_drop, List.length_take, HL.out]; omega
          rw [List.length_append, litC_length, hl]
          omega
        have HA2 := Lib.hid hal2
        clear hal2
        go_wp2_with fail
        ((with_reducible refine (Pq.literals_any _ _ acc _ _ HC.out.pk (by rw [ByteArray.size_extract]; omega) (by omega) HC.out.sz).mono ?_); rintro e w2 ⟨rfl, hp2, hf2⟩)
        have HC2 := Lib.hid (HC.out.write hp2 hf2)
        clear hp2 hf2 HC k1 k2 k3
        generalize hA : acc ++ litC (s.extract q i).data.toList = A1 at *
        have HAe : Hid (A1 = acc ++ litC ((L.take i).drop q)) := by rw [← HX.out]; exact hA.symm
        have HA3 := HA2.out
        have HWr : Hid (∀ W, CE s w.heap.size m A1 last w W → Calls Try.prog 55 #[.pointer (some ⟨w.heap.size + 1 + 1, 0, none⟩), .slice (some ⟨W.heap.size, 0, none⟩) 3 3] (W.alloc (.cells #[.int .u8 ((N : Int) + 125), .int .u8 (((i : Int) - (a : Int)) / 256), .int .u8 (((i : Int) - (a : Int)) % 256)] 5))
            fun e w' => e = .returned (.tuple #[.int .i64 3, .nilIface]) ∧ CE s w.heap.size m (A1 ++ copyB N (i - a)) last w w') := fun W H => copy_put H N i a p5 p1 p2 (by omega)
        have HE3 : Hid (A1 ++ copyB N (i - a) ++ encCF L f' (i + N) (i + N) (noteN L last i N) = E) := by
          rw [HAe.out]
          have := HE2.out
          simp only [List.append_assoc] at this ⊢
          exact this
        have hal4 : (A1 ++ copyB N (i - a)).length ≤ 2 * (i + N) := by
          rw [List.length_append, show (copyB N (i - a)).length = 3 from rfl]; omega
        have HA4 := Lib.hid hal4
        clear hA hal4 HA3 HE2
        go_wp2_with fail
        ((with_reducible refine (HWr.out _ HC2.out).mono ?_); rintro e w3 ⟨rfl, hce3⟩)
        have HC3 := Lib.hid hce3
        clear hce3 HC2 HWr
        generalize A1 ++ copyB N (i - a) = A2 at *
        clear HAe HA2 HX
        go_wp2_with fail
        go_loopw [9, 98] (fun v9 v98 wi => ∃ k : Nat, k ≤ N ∧ v9 = .int .i64 ((i : Int) + (k : Int)) ∧ v98 = .int .i64 k ∧ CE s w.heap.size (m + k) A2 (noteN L last i k) w wi) (fun _ v98 _ => N - (intOf v98).toNat)
        case atStart => exact ⟨0, Nat.zero_le _, valInt (by omega), rfl, HC3.out⟩
        case round =>
          obtain ⟨k, hk, rfl, rfl, hce4⟩ := hrel
          have HC4 := Lib.hid hce4
          clear hce4 HC3
          by_cases hkN : k < N
          · have t1 : decide ((k : Int) < (N : Int)) = true := by simp; omega
            have HC5 : Hid (∀ W, CE s w.heap.size (m + k + 1) A2 (noteF L (noteN L last i k) (i + k)) w W → CE s w.heap.size (m + (k + 1)) A2 (noteN L last i (k + 1)) w W) := fun W h => h
            have HNt2 : Hid (∀ W, CE s w.heap.size (m + k) A2 (noteN L last i k) w W → Calls Try.prog 53 #[.int .i64 ((i : Int) + (k : Int)), .pointer (some ⟨w.heap.size + 1, 0, none⟩), .pointer (some ⟨w.heap.size + 1 + 1 + 1 + 1, 0, none⟩)] W fun e w' => e = .returned (.tuple #[]) ∧ CE s w.heap.size (m + (k + 1)) A2 (noteN L last i (k + 1)) w w') := fun W H => by
              have := HNt.out W A2 (m + k) (i + k) _ H (by omega) (by omega)
              rwa [show ((i + k : Nat) : Int) = (i : Int) + (k : Int) by omega] at this
            go_wp2_with fail
            ((with_reducible refine (HNt2.out _ HC4.out).mono ?_); rintro e w4 ⟨rfl, hce5⟩)
            have HC6 := Lib.hid hce5
            clear hce5 HC4 HC5 HNt2
            go_wp2_with fail
            go_roundw
            case rel => exact ⟨k + 1, by omega, valInt (by omega), by go_num, HC6.out⟩
            case measure => simp [intOf]; omega
          · have hkk : k = N := by omega
            subst hkk
            have t1 : decide ((k : Int) < (k : Int)) = false := by simp
            go_wp2_with fail
            go_roundw
            case rel => exact ⟨i + k, i + k, m + k, f', A2, noteN L last i k, by omega, Nat.le_refl _, by omega, valInt (by omega), valInt (by omega), HA4.out, by omega, HE3.out, HLo.out.noteN k, HC4.out⟩
            case measure => simp [intOf]; omega
    · have g0 : decide ((i : Int) < (s.size : Int)) = false := by simp; omega
      have hil : i = s.size := by omega
      subst hil
      have he0 : acc ++ litC (L.drop q) = E := by
        have := HE.out
        cases f with
        | zero => exact this
        | succ f => simp only [encCF] at this; rwa [if_pos (by rw [HL.out]; exact Nat.le_refl _)] at this
      have hX : (s.extract q s.size).data.toList = L.drop q := by
        rw [HEx.out q s.size hqi (Nat.le_refl _), ← HL.out, List.take_length]
      have HE2 : Hid (acc ++ litC (s.extract q s.size).data.toList = E) := by unfold Hid; rw [hX]; exact he0
      clear he0 hX HE
      go_wp2_with fail
      ((with_reducible refine (Pq.literals_any _ _ acc _ _ HC.out.pk (by rw [ByteArray.size_extract]; omega) (by omega) HC.out.sz).mono ?_); rintro e w2 ⟨rfl, hp2, hf2⟩)
      have HC2 := Lib.hid (HC.out.write hp2 hf2)
      clear hp2 hf2 HC k1 k2 k3
      generalize acc ++ litC (s.extract q s.size).data.toList = A1 at *
      go_wp2_with fail
      ((with_reducible refine (Pq.pk_string HC2.out.pk).mono ?_); rintro e w3 ⟨rfl, hf3⟩)
      have HB3 : Hid (Below w.heap.size w w3) := hf3.below (by omega) (by omega) |> HC2.out.bl.trans
      clear hf3 HC2
      go_wp2_with fail
      go_ret
      exact ⟨by rw [← HE2.out]; rfl, HB3.out⟩
end Go.Proofs.Ytdibgloaknnfgaa
