/- The walk of FilterRowsAdd. -/
import Derived.Test.YtdibgloaknnfgaaDecOne
import Derived.Test.YtdibgloaknnfgaaWithin
import Derived.Deep.DeepCutAuto
import Derived.Deep.QuietTactic
import Derived.BigQuiet
namespace Go.Proofs.Ytdibgloaknnfgaa
open Go.RowKit
/-- The first k bytes of two lists, added. -/
def addL (a b : List UInt8) (k : Nat) : List UInt8 := (List.range k).map fun i => byte a i + byte b i
theorem addL_at {a b : List UInt8} {k i : Nat} (h : i < k) : byte (addL a b k) i = byte a i + byte b i := by simp [addL, byte, List.getD_eq_getElem?_getD, h]
theorem dec_at {n : Nat} {l : List UInt8} {i : Nat} (h : i < l.length) : byte (dec n l) i = dR n l i := by unfold byte dec; rw [dTo_at h, if_pos h]
theorem dR_add (n : Nat) (a b : List UInt8) (k : Nat) : ∀ i, i < k → dR n (addL a b k) i = dR n a i + dR n b i := by
  intro i
  induction i using Nat.strongRecOn with
  | ind i ih =>
    intro hi
    by_cases h : 0 < n ∧ n ≤ i
    · rw [dR_hi h.1 h.2, dR_hi h.1 h.2, dR_hi h.1 h.2, addL_at hi, ih (i - n) (by omega) (by omega)]
      simp only [UInt8.add_assoc]
      congr 1
      rw [← UInt8.add_assoc, ← UInt8.add_assoc, UInt8.add_comm (byte b i)]
    · rw [dR, dif_neg h, dR, dif_neg h, dR, dif_neg h, addL_at hi]
theorem take_byte (l : List UInt8) (k i : Nat) (h : i < k) : byte (l.take k) i = byte l i := by simp [byte, List.getD_eq_getElem?_getD, List.getElem?_take_of_lt h]
theorem dR_take (n : Nat) (l : List UInt8) (k : Nat) : ∀ i, i < k → dR n (l.take k) i = dR n l i := by
  intro i
  induction i using Nat.strongRecOn with
  | ind i ih =>
    intro hi
    by_cases h : 0 < n ∧ n ≤ i
    · rw [dR_hi h.1 h.2, dR_hi h.1 h.2, take_byte _ _ _ hi, ih (i - n) (by omega) (by omega)]
    · rw [dR, dif_neg h, dR, dif_neg h, take_byte _ _ _ hi]
theorem dec_len (n : Nat) (l : List UInt8) : (dec n l).length = l.length := dTo_length _ _ _
theorem rows_law (n : Nat) (a b : List UInt8) (k i : Nat) (ha : k ≤ a.length) (hb : k ≤ b.length) (h : i < k) : byte (dec n (a.take k)) i + byte (dec n (b.take k)) i = byte (dec n (addL a b k)) i := by
  rw [dec_at (by simp; omega), dec_at (by simp; omega), dec_at (by simp [addL]; omega), dR_take _ _ _ _ h, dR_take _ _ _ _ h, dR_add _ _ _ _ _ h]
theorem start_dec : dec 1 [1, 1, 1] = [1, 2, 3] := by
  have h0 : dR 1 [1, 1, 1] 0 = 1 := by rw [dR_lo (by omega)]; rfl
  have h1 : dR 1 [1, 1, 1] 1 = 2 := by rw [dR_hi (by omega) (by omega), show 1 - 1 = 0 from rfl, h0]; rfl
  have h2 : dR 1 [1, 1, 1] 2 = 3 := by rw [dR_hi (by omega) (by omega), show 2 - 1 = 1 from rfl, h1]; rfl
  have e : dec 1 [1, 1, 1] = [dR 1 [1, 1, 1] 0, dR 1 [1, 1, 1] 1, dR 1 [1, 1, 1] 2] := by rfl
  rw [e, h0, h1, h2]
/-- The first i of k bytes are added. -/
def addTo (a b : List UInt8) (k i : Nat) : List UInt8 := (List.range k).map fun j => if j < i then byte a j + byte b j else 0
theorem addTo_length (a b : List UInt8) (k i : Nat) : (addTo a b k i).length = k := by simp [addTo]
theorem addTo_start (a b : List UInt8) (k : Nat) : addTo a b k 0 = List.replicate k 0 := by
  apply List.ext_getElem
  · simp [addTo]
  · intro i h1 h2; simp [addTo]
theorem addTo_all (a b : List UInt8) (k : Nat) : addTo a b k k = addL a b k := by
  apply List.ext_getElem
  · simp [addTo, addL]
  · intro i h1 h2
    have : i < k := by simpa [addTo] using h1
    simp [addTo, addL, this]
theorem addTo_step (a b : List UInt8) (k i : Nat) : (addTo a b k i).set i (byte a i + byte b i) = addTo a b k (i + 1) := by
  apply List.ext_getElem
  · simp [addTo]
  · intro j h1 h2
    simp only [addTo, List.getElem_set, List.getElem_map, List.getElem_range]
    by_cases e : i = j
    · subst e; rw [if_pos rfl, if_pos (by omega)]
    · rw [if_neg e]
      by_cases e2 : j < i
      · rw [if_pos e2, if_pos (by omega)]
      · rw [if_neg e2, if_neg (by omega)]
theorem eByte : ElemT Try.prog 32 5 (.int .u8 0) 1 := ElemT.mk_ Try.underlying32 (by kernel_rfl) rfl
theorem sbyte (s : ByteArray) (i : Nat) (h : i < s.size) : s[i] = byte s.data.toList i := by
  have h2 : i < s.data.toList.length := by simpa using h
  rw [byte, List.getD_eq_getElem?_getD, List.getElem?_eq_getElem h2]; rfl
def APost (w : World) (e : Ending) (w' : World) : Prop := e = .returned (.bool true) ∧ Below w.heap.size w w'
set_option maxHeartbeats 2000000 in
set_option maxRecDepth 100000 in
theorem rowsadd_any (s t : ByteArray) (nn : Int) (w : World) (hs : s.size ≤ 9223372036854775807) (ht : t.size ≤ 9223372036854775807) :
    Calls Try.prog 4 #[.string s, .string t, .int .i64 nn] w (APost w) := by
  have HPost : Hid (∀ w', Below w.heap.size w w' → APost w (.returned (.bool true)) w') := fun w' h => ⟨rfl, h⟩
  generalize APost w = Post at *
  go_enter Try.func4, Try.ntmps4
  go_wp2_with fail
  refine (within_range _ _ _ _ (by omega) (by omega) (by omega)).mono ?_; rintro e w' ⟨n, hn0, hn1, rfl, rfl⟩
  obtain ⟨n, rfl⟩ := Int.eq_ofNat_of_zero_le (show 0 ≤ n by omega)
  go_wp2_with fail
  have hone : One ((w.alloc (Obj.cells #[Value.int IntKind.i64 2, Value.int IntKind.i64 (n : Int)] 27)).alloc (Obj.cells #[Value.int IntKind.i64 2, Value.int IntKind.i64 1] 27)) (w.heap.size + 1) 0 2 (1 : Nat) := by
    have := Blk.new (w.alloc (Obj.cells #[Value.int IntKind.i64 2, Value.int IntKind.i64 (n : Int)] 27)) 27 #[Value.int IntKind.i64 2, Value.int IntKind.i64 1]
    have h1 : (w.alloc (Obj.cells #[Value.int IntKind.i64 2, Value.int IntKind.i64 (n : Int)] 27)).heap.size = w.heap.size + 1 := by simp
    rw [h1] at this
    exact ⟨this.lt, this.cell 0, this.cell 1⟩
  have hone2 : One ((w.alloc (Obj.cells #[Value.int IntKind.i64 2, Value.int IntKind.i64 (n : Int)] 27)).alloc (Obj.cells #[Value.int IntKind.i64 2, Value.int IntKind.i64 1] 27)) w.heap.size 0 2 n := by
    have := (Blk.new w 27 #[Value.int IntKind.i64 2, Value.int IntKind.i64 (n : Int)]).alloc (Obj.cells #[Value.int IntKind.i64 2, Value.int IntKind.i64 1] 27)
    exact ⟨this.lt, this.cell 0, this.cell 1⟩
  have hb0 := ((Below.refl w.heap.size w).alloc (Nat.le_refl _) (Obj.cells #[Value.int IntKind.i64 2, Value.int IntKind.i64 (n : Int)] 27)).alloc (by simp) (Obj.cells #[Value.int IntKind.i64 2, Value.int IntKind.i64 1] 27)
  refine (decode_row _ 0 1 1 ⟨#[1, 1, 1]⟩ _ hone (by omega) (by omega) (by decide)).mono ?_; rintro e w2 ⟨rfl, hb2⟩
  have HO := Lib.hid (hone2.later hb2)
  have HB := Lib.hid (hb0.trans (hb2.mono hb0.size))
  rw [show (⟨#[1, 1, 1]⟩ : ByteArray).data.toList = [1, 1, 1] from rfl, start_dec]
  clear hone hone2 hb0 hb2
  obtain ⟨k, hk⟩ : ∃ k : Nat, (k : Int) = min (min (s.size : Int) (t.size : Int)) 3000 := ⟨min (min s.size t.size) 3000, by omega⟩
  have hk1 : k ≤ s.size := by omega
  have hk2 : k ≤ t.size := by omega
  have hk3 : k ≤ 3000 := by omega
  go_upto_region 5 with (fail)
  go_cut [10] (fun s10 wx => s10 = .int .i64 (k : Int) ∧ wx = w2)
  case first =>
    go_wp2
    all_goals
      go_meet
      exact ⟨valInt (by omega), rfl⟩
  case rest =>
    obtain ⟨rfl, rfl⟩ := hcut
    have HK := Lib.hid hk
    have hmk := fun w => run_mk eByte rfl k (by omega) (by omega) (k : Int) rfl w
    clear hk
    have hrow : BRow (wc.alloc (Obj.cells (Array.replicate k (Value.int IntKind.u8 0)) 5)) wc.heap.size (addTo s.data.toList t.data.toList k 0) := by
      have := (Blk.new wc 5 (Array.replicate k (Value.int IntKind.u8 0))).row
      rw [addTo_start]
      unfold BRow
      rw [List.map_replicate]
      simpa using this
    have HRow := Lib.hid hrow
    clear hrow
    go_wp2
    clear hmk
    go_loopw [45] (fun vi wr => ∃ i : Nat, i ≤ k ∧ vi = .int .i64 i ∧ BRow wr wc.heap.size (addTo s.data.toList t.data.toList k i) ∧ Below wc.heap.size wc wr) (fun i _ => k - (intOf i).toNat)
    case atStart => exact ⟨0, by omega, rfl, HRow.out, (Below.refl _ _).alloc (Nat.le_refl _) _⟩
    case round =>
      obtain ⟨i, hi, rfl, hrow, hb⟩ := hrel
      have HR := Lib.hid hrow
      have HB1 := Lib.hid hb
      have hl := addTo_length s.data.toList t.data.toList k i
      by_cases hik : i < k
      · have c1 := hrow.at_ (i := i) (by omega)
        have c3 := hrow.free_ (i := i) (by omega)
        have c4 := hrow.lt
        have e1 : (i : Int) < (s.size : Int) := by omega
        have e2 : (i : Int) < (t.size : Int) := by omega
        have e3 : (i : Int) < (k : Int) := by omega
        have e4 : i < s.size := by omega
        have e5 : i < t.size := by omega
        clear hrow hb hl
        go_wp2
        have HV : Hid ((((s[i]'e4).toNat : Int) + ((t[i]'e5).toNat : Int)) % 256 = ((byte s.data.toList i + byte t.data.toList i).toNat : Int)) := by
          unfold Hid; rw [sbyte s i e4, sbyte t i e5]; exact wrap_add _ _
        have HSt := Lib.hid (addTo_step s.data.toList t.data.toList k i)
        go_region
        clear c1 c3 c4
        go_wp2
        rw [HV.out]
        exact ⟨⟨i + 1, by omega, by go_num, by rw [← HSt.out]; exact (HR.out.put (by rw [addTo_length]; exact hik) _).drew, (HB1.out.setCell (Nat.le_refl _) _).drew⟩, by simp [intOf]; omega⟩
      · obtain rfl : i = k := by omega
        obtain ⟨w4, rfl⟩ : ∃ w4 : World, w4 = wr := ⟨_, rfl⟩
        rw [addTo_all] at hrow
        have hlen : (addL s.data.toList t.data.toList i).length = i := by simp [addL]
        have hconvG : ∀ w', Below w4.heap.size w4 w' → (convert 32 9 (.slice (some ⟨wc.heap.size, 0, none⟩) i i)).run Try.prog w' = .ok (.string ⟨(addL s.data.toList t.data.toList i).toArray⟩) w' := fun w' hb' => by
          have hr := Row.below hrow hb' hrow.lt
          have := run_convert_bytes_back (P := Try.prog) w' 32 9 5 ⟨wc.heap.size, 0, none⟩ i (addL s.data.toList t.data.toList i) Try.underlying32 Try.underlying5 Try.underlying9
            (fun j hj => by rw [add_plain, Nat.zero_add]; have := BRow.at_ hr hj; rw [List.getD_eq_getElem?_getD, List.getElem?_eq_getElem hj] at this; exact this)
          rwa [hlen] at this
        have HCv := Lib.hid hconvG
        have HO4 := Lib.hid (HO.out.later hb)
        have HB4 := Lib.hid (HB.out.trans (hb.mono HB.out.size))
        have HD1 : Hid (∀ w', Below w4.heap.size w4 w' → Calls Try.prog 11 #[.slice (some ⟨w.heap.size, 0, none⟩) 1 1, .string (s.extract 0 i)] w' (DecPost w' (dec n (s.data.toList.take i)))) := fun w' hb' => by
          have := decode_row w.heap.size 0 1 n (s.extract 0 i) w' (HO4.out.later hb') (by omega) (by omega) (by simp [ByteArray.size_extract]; omega)
          rwa [Lib.extract_data, List.drop_zero, Nat.sub_zero] at this
        have HD2 : Hid (∀ w', Below w4.heap.size w4 w' → Calls Try.prog 11 #[.slice (some ⟨w.heap.size, 0, none⟩) 1 1, .string (t.extract 0 i)] w' (DecPost w' (dec n (t.data.toList.take i)))) := fun w' hb' => by
          have := decode_row w.heap.size 0 1 n (t.extract 0 i) w' (HO4.out.later hb') (by omega) (by omega) (by simp [ByteArray.size_extract]; omega)
          rwa [Lib.extract_data, List.drop_zero, Nat.sub_zero] at this
        have HD3 : Hid (∀ w', Below w4.heap.size w4 w' → Calls Try.prog 11 #[.slice (some ⟨w.heap.size, 0, none⟩) 1 1, .string ⟨(addL s.data.toList t.data.toList i).toArray⟩] w' (DecPost w' (dec n (addL s.data.toList t.data.toList i)))) := fun w' hb' => by
          have := decode_row w.heap.size 0 1 n ⟨(addL s.data.toList t.data.toList i).toArray⟩ w' (HO4.out.later hb') (by omega) (by omega) (by show (addL s.data.toList t.data.toList i).toArray.size ≤ _; simp [hlen]; omega)
          rwa [List.toList_toArray] at this
        have hl1 : (dec n (s.data.toList.take i)).length = i := by rw [dec_len, List.length_take]; simp; omega
        have hl2 : (dec n (t.data.toList.take i)).length = i := by rw [dec_len, List.length_take]; simp; omega
        have hl3 : (dec n (addL s.data.toList t.data.toList i)).length = i := by rw [dec_len, hlen]
        have HLaw : Hid (∀ j, j < i → byte (dec n (s.data.toList.take i)) j + byte (dec n (t.data.toList.take i)) j = byte (dec n (addL s.data.toList t.data.toList i)) j) := fun j hj => rows_law n _ _ i j (by simp; omega) (by simp; omega) hj
        clear hrow hb hlen hconvG HR HB1 hl
        generalize dec n (s.data.toList.take i) = D1 at *
        generalize dec n (t.data.toList.take i) = D2 at *
        generalize dec n (addL s.data.toList t.data.toList i) = D3 at *
        have HL1 := Lib.hid hl1
        have HL2 := Lib.hid hl2
        have HL3 := Lib.hid hl3
        clear hl1 hl2 hl3
        go_wp2_with fail
        refine (HD1.out _ (Below.refl _ _)).mono ?_; rintro e w5 ⟨rfl, hb5⟩
        have HB5 := Lib.hid hb5
        clear hb5
        go_wp2_with fail
        refine (HD2.out _ HB5.out).mono ?_; rintro e w6 ⟨rfl, hb6⟩
        have HB6 := Lib.hid (HB5.out.trans (hb6.mono HB5.out.size))
        clear hb6
        have hcv := HCv.out w6 HB6.out
        go_wp2_with fail
        refine (HD3.out _ HB6.out).mono ?_; rintro e w7 ⟨rfl, hb7⟩
        have HB7 := Lib.hid (HB6.out.trans (hb7.mono HB6.out.size))
        clear hb7 hcv
        have z1 : (⟨D1.toArray⟩ : ByteArray).size = i := by show D1.toArray.size = i; simp [HL1.out]
        have z2 : (⟨D2.toArray⟩ : ByteArray).size = i := by show D2.toArray.size = i; simp [HL2.out]
        have z3 : (⟨D3.toArray⟩ : ByteArray).size = i := by show D3.toArray.size = i; simp [HL3.out]
        have HZ := Lib.hid (And.intro z1 (And.intro z2 z3))
        have hBF := Lib.hid (HB4.out.trans (HB7.out.mono HB4.out.size))
        have b1 : (⟨D1.toArray⟩ : ByteArray).data.toList = D1 := by simp
        have b2 : (⟨D2.toArray⟩ : ByteArray).data.toList = D2 := by simp
        have b3 : (⟨D3.toArray⟩ : ByteArray).data.toList = D3 := by simp
        have hbl : Hid (∀ j (h1 : j < (⟨D1.toArray⟩ : ByteArray).size) (h2 : j < (⟨D2.toArray⟩ : ByteArray).size) (h3 : j < (⟨D3.toArray⟩ : ByteArray).size), (((((⟨D1.toArray⟩ : ByteArray)[j]'h1).toNat : Int) + (((⟨D2.toArray⟩ : ByteArray)[j]'h2).toNat : Int)) % 256) = (((⟨D3.toArray⟩ : ByteArray)[j]'h3).toNat : Int)) := fun j h1 h2 h3 => by
          rw [sbyte _ j h1, sbyte _ j h2, sbyte _ j h3, b1, b2, b3, wrap_add, HLaw.out j (by rw [z1] at h1; exact h1)]
        clear b1 b2 b3 HLaw HL1 HL2 HL3 z1 z2 z3
        generalize (⟨D1.toArray⟩ : ByteArray) = S1 at *
        generalize (⟨D2.toArray⟩ : ByteArray) = S2 at *
        generalize (⟨D3.toArray⟩ : ByteArray) = S3 at *
        have z1 := HZ.out.1
        have z2 := HZ.out.2.1
        have z3 := HZ.out.2.2
        go_wp2_with fail
        clear z1 z2 z3
        go_loopw [111] (fun vi wr => ∃ j : Nat, j ≤ i ∧ vi = .int .i64 j ∧ Same w7 wr) (fun vi _ => i - (intOf vi).toNat)
        case atStart => exact ⟨0, by omega, rfl, Same.refl _⟩
        case round =>
          obtain ⟨j, hj, rfl, hsm⟩ := hrel
          have HSm := Lib.hid hsm
          clear hsm
          by_cases hji : j < i
          · obtain ⟨z1, z2, z3⟩ := HZ.out
            have e1 : j < S1.size := by omega
            have e2 : j < S2.size := by omega
            have e3 : j < S3.size := by omega
            have hq : ((((S1[j]'e1).toNat : Int) + ((S2[j]'e2).toNat : Int)) % 256 != ((S3[j]'e3).toNat : Int)) = false := by rw [hbl.out j e1 e2 e3]; simp
            have e4 : (j : Int) < (S1.size : Int) := by omega
            have e5 : (j : Int) < (S2.size : Int) := by omega
            have e6 : (j : Int) < (S3.size : Int) := by omega
            clear z1 z2 z3
            go_wp2
            go_quiet (fail)
            go_wp2
            clear hq e1 e2 e3 e4 e5 e6
            go_roundw
            case rel => exact ⟨j + 1, by omega, by go_num, HSm.out.drewN_ _⟩
            case measure => simp [intOf]; omega
          · obtain rfl : j = i := by omega
            go_wp2
            exact HPost.out _ (hBF.out.trans ((HSm.out.below _).mono hBF.out.size))
end Go.Proofs.Ytdibgloaknnfgaa
