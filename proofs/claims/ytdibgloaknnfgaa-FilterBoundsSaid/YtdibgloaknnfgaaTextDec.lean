/- The walk of text.decode. -/
import Derived.Test.YtdibgloaknnfgaaTextEnc
namespace Go.Proofs.Ytdibgloaknnfgaa
open Go.RowKit
/-- What decoding characters answers behind the bytes acc. -/
def decT (l acc : List UInt8) : List UInt8 × Int :=
  if _h : l.length = 0 then (acc, 0)
  else if byte l 0 = 122 then (if 65536 < acc.length + 4 then ([], 2) else decT (l.drop 1) (acc ++ [0, 0, 0, 0]))
  else if (ungR (l.take 5)).2 ≠ 0 then ([], (ungR (l.take 5)).2)
  else if 65536 < acc.length + (ungR (l.take 5)).1.length then ([], 2) else decT (l.drop 5) (acc ++ (ungR (l.take 5)).1)
termination_by l.length
decreasing_by all_goals rw [List.length_drop]; omega
theorem decT_nil {l acc : List UInt8} (h : l.length = 0) : decT l acc = (acc, 0) := by rw [decT, dif_pos h]
theorem decT_z {l acc : List UInt8} (h : l.length ≠ 0) (hz : byte l 0 = 122) : decT l acc = if 65536 < acc.length + 4 then ([], 2) else decT (l.drop 1) (acc ++ [0, 0, 0, 0]) := by
  conv => lhs; rw [decT, dif_neg h, if_pos hz]
theorem decT_bad {l acc : List UInt8} (h : l.length ≠ 0) (hz : byte l 0 ≠ 122) (hu : (ungR (l.take 5)).2 ≠ 0) : decT l acc = ([], (ungR (l.take 5)).2) := by
  conv => lhs; rw [decT, dif_neg h, if_neg hz, if_pos hu]
theorem decT_go {l acc : List UInt8} (h : l.length ≠ 0) (hz : byte l 0 ≠ 122) (hu : (ungR (l.take 5)).2 = 0) :
    decT l acc = if 65536 < acc.length + (ungR (l.take 5)).1.length then ([], 2) else decT (l.drop 5) (acc ++ (ungR (l.take 5)).1) := by
  conv => lhs; rw [decT, dif_neg h, if_neg hz, if_neg (by rw [hu]; simp)]
theorem ungR_length (l : List UInt8) : (ungR l).1.length ≤ 4 := by
  unfold ungR
  repeat' split
  all_goals simp [b4] <;> omega
set_option maxRecDepth 100000 in
set_option maxHeartbeats 1000000 in
theorem decode_any (s : ByteArray) (w : World) (hs : s.size ≤ 1000000) :
    Calls Try.prog 56 #[.agg #[], .string s] w (UngPost w (decT s.data.toList [])) := by
  have HN := Lib.hid (bd_new w (.cells #[] 47))
  have HB0 := Lib.hid (((Below.refl w.heap.size w).alloc (Nat.le_refl _) (.cells #[] 47)).alloc (by simp) (.cells #[.pointer none, .slice none 0 0] 66))
  have HP : Hid (∀ w', Below w.heap.size w w' → ∀ r, r = decT s.data.toList [] → UngPost w (decT s.data.toList []) (.returned (.tuple #[.string ⟨r.1.toArray⟩, .int .i64 r.2])) w') := fun w' hb r h => by rw [h]; exact ⟨rfl, hb⟩
  generalize hPo : UngPost w (decT s.data.toList []) = Post at *
  generalize hE : decT s.data.toList [] = E at *
  have HE := Lib.hid hE
  clear hE hPo
  go_enter Try.func56, Try.ntmps56
  go_wp2
  go_loopw [1] (fun vr wr => ∃ (r : ByteArray) (l : List UInt8), vr = .string r ∧ l.length ≤ 65536 ∧ r.size ≤ s.size ∧ decT r.data.toList l = E ∧ Bd w.heap.size l wr ∧ Below w.heap.size w wr) (fun vr _ => szOf vr)
  case atStart => exact ⟨s, [], rfl, by simp, Nat.le_refl _, HE.out, HN.out, HB0.out⟩
  case round =>
    obtain ⟨r, l, rfl, hl, hrs, he, hbd, hb⟩ := hrel
    have HBd := Lib.hid hbd
    have HB := Lib.hid hb
    have HEr := Lib.hid he
    clear hbd hb he HN HB0 HE
    by_cases hr : r.size = 0
    · have hre : r = ⟨#[]⟩ := by
        obtain ⟨d⟩ := r
        have : d.size = 0 := hr
        rw [Array.eq_empty_of_size_eq_zero this]
      subst hre
      have HEl : Hid ((l, 0) = E) := by have := HEr.out; rwa [decT_nil rfl] at this
      go_wp2_with (go_at_call 36; refine (Builder_String_any w.heap.size _ _ _ HBd.out HB.out.size).mono ?_; rintro e w2 ⟨rfl, hb2⟩; have HB2 := Lib.hid hb2; clear hb2)
      exact HP.out _ (HB.out.trans HB2.out) _ HEl.out
    · have hr0 : 0 < r.size := by omega
      have hrl : r.data.toList.length ≠ 0 := by simpa using hr
      have hq : r.toList.isEmpty = false := by rw [Lib.toList_data]; cases hd : r.data.toList with | nil => exact absurd (by rw [hd]; rfl) hrl | cons a b => rfl
      have HRl := Lib.hid hrl
      have HBy : Hid (r[0]'hr0 = byte r.data.toList 0) := sbyte r 0 hr0
      clear hrl
      by_cases hz : (r[0]'hr0).toNat = 122
      · have hz2 : (((r[0]'hr0).toNat : Int) == 122) = true := by rw [beq_iff_eq]; omega
        have HZ : Hid (byte r.data.toList 0 = 122) := by rw [← HBy.out]; exact UInt8.toNat_inj.1 hz
        have hL : (Lib.byteCells (l ++ [0, 0, 0, 0])).length = l.length + 4 := by rw [Lib.byteCells_length]; simp
        obtain ⟨n, hn⟩ : ∃ n, n = l.length + 4 := ⟨_, rfl⟩
        rw [← hn] at hL
        have HL := Lib.hid hL
        have HNn := Lib.hid hn
        have hn2 : n ≤ 65540 := by omega
        clear hL hz hn
        have HW : Hid (Calls Try.prog 33 #[.pointer (some ⟨w.heap.size + 1, 0, none⟩), .string ⟨#[0, 0, 0, 0]⟩] wr fun e w' => e = .returned (.tuple #[.int .i64 4, .nilIface]) ∧ Bd w.heap.size (l ++ [0, 0, 0, 0]) w' ∧ Below w.heap.size wr w') := bd_write HBd.out [0, 0, 0, 0] (by show l.length + 4 ≤ _; omega) HB.out.size
        go_wp2_with (first
          | (go_at_call 33; refine HW.out.mono ?_; rintro e w3 ⟨rfl, hbd2, hb2⟩; have HB3 := Lib.hid hb2; have HBd2 := Lib.hid hbd2; clear hb2 hbd2)
          | (go_at_call 35; refine (Builder_Len _ _ _ _ HBd2.out).mono ?_; rintro e w4 ⟨rfl, rfl⟩; rw [HL.out]))
        · rename_i h
          have HGo3 := decT_z (acc := l) HRl.out HZ.out
          rw [if_pos (by rw [← HNn.out]; omega), HEr.out] at HGo3
          exact HP.out _ (HB.out.trans HB3.out) ([], 2) HGo3.symm
        · rename_i h
          have HGo3 := decT_z (acc := l) HRl.out HZ.out
          rw [if_neg (by rw [← HNn.out]; omega), HEr.out] at HGo3
          refine ⟨⟨r.extract 1 r.size, l ++ [0, 0, 0, 0], rfl, by rw [List.length_append]; have := HNn.out; show l.length + 4 ≤ _; omega, by rw [ByteArray.size_extract]; omega, ?_, HBd2.out, HB.out.trans HB3.out⟩, ?_⟩
          · rw [Lib.extract_data, List.take_of_length_le (by simp)]; exact HGo3.symm
          · show (r.extract _ _).size < r.size; rw [ByteArray.size_extract]; omega
      · have hz2 : (((r[0]'hr0).toNat : Int) == 122) = false := by rw [beq_eq_false_iff_ne]; omega
        have HZ : Hid (byte r.data.toList 0 ≠ 122) := by rw [← HBy.out]; exact fun h => hz (by rw [h]; rfl)
        have hk : (min (r.size : Int) 5).toNat = min r.size 5 := by omega
        have HK := Lib.hid hk
        have HU : Hid (∀ w', Calls Try.prog 58 #[.string (r.extract 0 (min (r.size : Int) 5).toNat)] w' (UngPost w' (ungR (r.data.toList.take 5)))) := fun w' => by
          have := ungroup_any (r.extract 0 (min r.size 5)) w' (by simp [ByteArray.size_extract]; omega) (by simp [ByteArray.size_extract]; omega)
          rw [Lib.extract_data, List.drop_zero, Nat.sub_zero] at this
          rw [hk]
          rw [take_min _ r.size 5 (by simp)]
          exact this
        have HBad : Hid ((ungR (r.data.toList.take 5)).2 ≠ 0 → decT r.data.toList l = ([], (ungR (r.data.toList.take 5)).2)) := fun h => decT_bad HRl.out HZ.out h
        have HGo : Hid ((ungR (r.data.toList.take 5)).2 = 0 → decT r.data.toList l = if 65536 < l.length + (ungR (r.data.toList.take 5)).1.length then ([], 2) else decT (r.data.toList.drop 5) (l ++ (ungR (r.data.toList.take 5)).1)) := fun h => decT_go HRl.out HZ.out h
        have HUl := Lib.hid (ungR_length (r.data.toList.take 5))
        have hz3 : ¬ (r[0]'hr0).toNat = 122 := hz
        clear hk
        generalize ungR (r.data.toList.take 5) = U at *
        obtain ⟨G, e⟩ := U
        by_cases he : e = 0
        · subst he
          have HGo2 := Lib.hid (HGo.out rfl)
          have hL : (Lib.byteCells (l ++ G)).length = l.length + G.length := by rw [Lib.byteCells_length]; simp
          have HL := Lib.hid hL
          clear hL HGo HBad
          go_wp2_with (first
            | (go_at_call 58; refine (HU.out _).mono ?_; rintro e w2 ⟨rfl, hb2⟩; have HB2 := Lib.hid hb2; clear hb2)
            | (go_at_call 33; refine (bd_write (bd_below HBd.out HB2.out) G (by have : G.length ≤ 4 := HUl.out; omega) (Nat.le_trans HB.out.size HB2.out.size)).mono ?_; rintro e w3 ⟨rfl, hbd2, hb2⟩; have HB3 := Lib.hid hb2; have HBd2 := Lib.hid hbd2; clear hb2 hbd2)
            | (go_at_call 35; refine (Builder_Len _ _ _ _ HBd2.out).mono ?_; rintro e w4 ⟨rfl, rfl⟩; rw [HL.out]))
          · rename_i h
            have HGo3 := HGo2.out
            rw [if_pos (by show 65536 < l.length + G.length; omega)] at HGo3
            exact HP.out _ ((HB.out.trans (HB2.out.mono HB.out.size)).trans HB3.out) ([], 2) (by rw [← HEr.out]; exact HGo3.symm)
          · rename_i h
            have HGo3 := HGo2.out
            rw [if_neg (by show ¬ 65536 < l.length + G.length; omega)] at HGo3
            have hx := HK.out
            refine ⟨⟨r.extract (min (r.size : Int) 5).toNat r.size, l ++ G, rfl, by rw [List.length_append]; omega, by rw [ByteArray.size_extract]; omega, ?_, HBd2.out, (HB.out.trans (HB2.out.mono HB.out.size)).trans HB3.out⟩, ?_⟩
            · rw [hx, Lib.extract_data, List.take_of_length_le (by simp), drop_min _ _ _ (by simp), ← HEr.out]; exact HGo3.symm
            · show (r.extract _ _).size < r.size; rw [ByteArray.size_extract]; omega
        · have HE2 := Lib.hid he
          have hne : (e != 0) = true := by simpa using he
          have HBa := Lib.hid (HBad.out he)
          go_wp2_with (first
            | (go_at_call 58; refine (HU.out _).mono ?_; rintro e w2 ⟨rfl, hb2⟩; have HB2 := Lib.hid hb2; clear hb2))
          exact HP.out _ (HB.out.trans (HB2.out.mono HB.out.size)) ([], e) (by rw [← HEr.out]; exact HBa.out.symm)
end Go.Proofs.Ytdibgloaknnfgaa
