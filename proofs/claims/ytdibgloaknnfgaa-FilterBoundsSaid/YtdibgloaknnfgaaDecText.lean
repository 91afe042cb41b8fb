/- The walks of Check, codingOf, Decode and Encode at a chain of the one step that codes bytes as characters. -/
import Derived.Test.YtdibgloaknnfgaaDecOne
import Derived.Test.YtdibgloaknnfgaaTextDec
namespace Go.Proofs.Ytdibgloaknnfgaa
open Go.RowKit
theorem enc_length (l : List UInt8) : (enc l).length ≤ 2 * l.length := by
  induction hn : l.length using Nat.strongRecOn generalizing l with
  | ind n ih =>
    by_cases h : l.length = 0
    · rw [enc_nil h]; simp
    · have h1 := ih (l.drop 4).length (by rw [List.length_drop]; omega) (l.drop 4) rfl
      have h2 := grp_length (l.take 4)
      rw [List.length_drop] at h1
      rw [List.length_take] at h2
      rw [enc_more h, List.length_append]; omega
theorem check_text (b off c : Nat) (w : World) (h : One w b off 4 0) :
    Calls Try.prog 12 #[.slice (some ⟨b, off, none⟩) 1 c] w fun e w' => e = .returned (.int .i64 0) ∧ Below w.heap.size w w' := by
  obtain ⟨hb, c0, c1⟩ := h
  go_enter Try.func12, Try.ntmps12
  go_wp2
  refine wp_loop_rounds 2 ?_
  rw [rounds_succ]
  go_wp2
  rw [rounds_succ]
  go_wp2
  go_ret
  exact ⟨rfl, (Below.refl _ _).alloc (Nat.le_refl _) _⟩
theorem coding_text (w : World) : Calls Try.prog 13 #[.agg #[.int .i64 4, .int .i64 0]] w fun e w' => e = .returned (.iface 47 (.agg #[])) ∧ Below w.heap.size w w' := by
  go_enter Try.func13, Try.ntmps13
  go_wp2
  go_ret
  exact ⟨rfl, (Below.refl _ _).alloc (Nat.le_refl _) _⟩
theorem method_dtext (w : World) : (method 192 47 (.agg #[]) "printworks/filter.decode").run Try.prog w = .ok (56, .agg #[]) w := by kernel_rfl
theorem method_etext (w : World) : (method 192 47 (.agg #[]) "printworks/filter.encode").run Try.prog w = .ok (57, .agg #[]) w := by kernel_rfl
/-- What Decode answers. -/
def decX (l : List UInt8) : List UInt8 × Int :=
  if 65536 < l.length then ([], 2) else if (decT l []).2 ≠ 0 then ([], (decT l []).2) else if 16384 < (decT l []).1.length then ([], 2) else ((decT l []).1, 0)
set_option maxHeartbeats 1000000 in
theorem decode_text (b off c : Nat) (s : ByteArray) (w : World) (h : One w b off 4 0) :
    Calls Try.prog 11 #[.slice (some ⟨b, off, none⟩) 1 c, .string s] w (UngPost w (decX s.data.toList)) := by
  have HC := Lib.hid (check_text b off c w h)
  have HO := Lib.hid h
  have hsz : s.data.toList.length = s.size := by simp
  have HP : Hid (∀ w', Below w.heap.size w w' → ∀ r, decX s.data.toList = r → UngPost w (decX s.data.toList) (.returned (.tuple #[.string ⟨r.1.toArray⟩, .int .i64 r.2])) w') := fun w' hb r h => by rw [h]; exact ⟨rfl, hb⟩
  have HX : Hid (decX s.data.toList = if 65536 < s.size then ([], 2) else if (decT s.data.toList []).2 ≠ 0 then ([], (decT s.data.toList []).2) else if 16384 < (decT s.data.toList []).1.length then ([], 2) else ((decT s.data.toList []).1, 0)) := by unfold Hid; rw [← hsz]; rfl
  have HD : Hid (s.size ≤ 1000000 → ∀ w', Calls Try.prog 56 #[.agg #[], .string s] w' (UngPost w' (decT s.data.toList []))) := fun h w' => decode_any s w' h
  generalize hPo : UngPost w (decX s.data.toList) = Post at *
  generalize decX s.data.toList = X at *
  generalize decT s.data.toList [] = T at *
  obtain ⟨D, e⟩ := T
  clear h hsz hPo
  have hm := method_dtext
  by_cases hs : 65536 < s.size
  · have HX2 := HX.out
    rw [if_pos hs] at HX2
    have HX3 := Lib.hid HX2
    clear HX2 HX HD
    go_enter Try.func11, Try.ntmps11
    go_wp2_with (first | (go_at_call 12; refine HC.out.mono ?_; rintro e w1 ⟨rfl, hb1⟩; have HB1 := Lib.hid hb1; clear hb1))
    exact HP.out _ HB1.out _ HX3.out
  · have HX2 := HX.out
    rw [if_neg hs] at HX2
    have HDe := Lib.hid (HD.out (by omega))
    clear HX HD
    have HX := Lib.hid HX2
    clear HX2
    go_enter Try.func11, Try.ntmps11
    go_wp2_with (first | (go_at_call 12; refine HC.out.mono ?_; rintro e w1 ⟨rfl, hb1⟩; have HB1 := Lib.hid hb1; obtain ⟨p0, p1, p2⟩ := HO.out.later hb1; clear hb1))
    refine wp_loop_rounds 2 ?_
    rw [rounds_succ]
    by_cases he : e = 0
    · subst he
      have HX2 := HX.out
      rw [if_neg (by simp)] at HX2
      have HX3 := Lib.hid HX2
      clear HX2 HX
      go_wp2_with (first
        | (go_at_call 13; refine (coding_text _).mono ?_; rintro e w2 ⟨rfl, hb2⟩; have HB2 := Lib.hid hb2; clear hb2)
        | (go_at_call 56; refine (HDe.out _).mono ?_; rintro e w3 ⟨rfl, hb3⟩; have HB3 := Lib.hid hb3; clear hb3))
      rw [rounds_succ]
      by_cases hd : 16384 < D.length
      · have hd2 : 16384 < (⟨D.toArray⟩ : ByteArray).size := by show 16384 < D.toArray.size; simpa using hd
        go_wp2
        have HX2 := HX3.out
        rw [if_pos hd] at HX2
        exact HP.out _ ((HB1.out.trans (HB2.out.mono HB1.out.size)).trans (HB3.out.mono (Nat.le_trans HB1.out.size HB2.out.size))) ([], 2) HX2
      · have hd2 : (⟨D.toArray⟩ : ByteArray).size ≤ 16384 := by show D.toArray.size ≤ 16384; simp; omega
        have HCl := Lib.hid (fun w => clone_str ⟨D.toArray⟩ w (by omega))
        go_wp2_with (go_at_call 14; refine (HCl.out _).mono ?_; rintro e w4 ⟨rfl, hb4⟩; have HB4 := Lib.hid hb4; clear hb4)
        have HX2 := HX3.out
        rw [if_neg hd] at HX2
        have H2 := HB1.out.trans (HB2.out.mono HB1.out.size)
        have H3 := H2.trans (HB3.out.mono H2.size)
        exact HP.out _ (H3.trans (HB4.out.mono H3.size)) (D, 0) HX2
    · have hne : (e != 0) = true := by simpa using he
      have HX2 := HX.out
      rw [if_pos he] at HX2
      have HX3 := Lib.hid HX2
      clear HX2 HX
      go_wp2_with (first
        | (go_at_call 13; refine (coding_text _).mono ?_; rintro e w2 ⟨rfl, hb2⟩; have HB2 := Lib.hid hb2; clear hb2)
        | (go_at_call 56; refine (HDe.out _).mono ?_; rintro e w3 ⟨rfl, hb3⟩; have HB3 := Lib.hid hb3; clear hb3))
      exact HP.out _ ((HB1.out.trans (HB2.out.mono HB1.out.size)).trans (HB3.out.mono (Nat.le_trans HB1.out.size HB2.out.size))) ([], _) HX3.out
theorem encode_text (b off c : Nat) (s : ByteArray) (w : World) (h : One w b off 4 0) (hs : s.size ≤ 16384) :
    Calls Try.prog 9 #[.slice (some ⟨b, off, none⟩) 1 c, .string s] w (UngPost w (enc s.data.toList, 0)) := by
  have HC := Lib.hid (check_text b off c w h)
  have HO := Lib.hid h
  have HEn := Lib.hid (fun w => encode_any s w (by omega))
  have hlen : (enc s.data.toList).length ≤ 100000 := by have := enc_length s.data.toList; simp only [Array.length_toList, ByteArray.size_data] at this; omega
  generalize enc s.data.toList = E at *
  have HCl := Lib.hid (fun w => clone_str ⟨E.toArray⟩ w (by show E.toArray.size ≤ _; simp; omega))
  clear h hlen
  have hm := method_etext
  go_enter Try.func9, Try.ntmps9
  go_wp2_with (first | (go_at_call 12; refine HC.out.mono ?_; rintro e w1 ⟨rfl, hb1⟩; have HB1 := Lib.hid hb1; obtain ⟨p0, p1, p2⟩ := HO.out.later hb1; clear hb1))
  refine wp_loop_rounds 2 ?_
  rw [rounds_succ]
  go_wp2_with (first
        | (go_at_call 13; refine (coding_text _).mono ?_; rintro e w2 ⟨rfl, hb2⟩; have HB2 := Lib.hid hb2; clear hb2)
        | (go_at_call 57; refine (HEn.out _).mono ?_; rintro e w3 ⟨rfl, hb3⟩; have HB3 := Lib.hid hb3; clear hb3))
  rw [rounds_succ]
  go_wp2_with (go_at_call 14; refine (HCl.out _).mono ?_; rintro e w4 ⟨rfl, hb4⟩; have HB4 := Lib.hid hb4; clear hb4)
  have HA := HB1.out.alloc HB1.out.size (Obj.cells #[Value.int IntKind.i64 4, Value.int IntKind.i64 0] 27)
  have H2 := HA.trans (HB2.out.mono HA.size)
  have H3 := H2.trans (HB3.out.mono H2.size)
  exact bodyPost_ret (v := .tuple #[.string ⟨E.toArray⟩, .int .i64 0]) (by simp [results, Try.results9, go_sem]) rfl ⟨rfl, H3.trans (HB4.out.mono H3.size)⟩
end Go.Proofs.Ytdibgloaknnfgaa
