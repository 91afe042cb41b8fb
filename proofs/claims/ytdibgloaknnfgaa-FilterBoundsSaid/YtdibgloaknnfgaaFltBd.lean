/- The walk of FilterBounds. -/
import Derived.Test.YtdibgloaknnfgaaFltRt
namespace Go.Proofs.Ytdibgloaknnfgaa
open Go.RowKit
theorem head_any (s : ByteArray) (w : World) (hs : s.size ≤ 9223372036854775807) :
    Calls Try.prog 7 #[.string s, .int .i64 3000] w fun e w' => e = .returned (.string (s.extract 0 (min s.size 3000))) ∧ w = w' := by
  have hm : min (s.size : Int) 3000 = ((min s.size 3000 : Nat) : Int) := by omega
  have hk : min s.size 3000 ≤ s.size := Nat.min_le_left _ _
  generalize min s.size 3000 = k at *
  go_enter Try.func7, Try.ntmps7
  go_wp2
  go_ret
  exact ⟨rfl, rfl⟩
theorem size_any (k b : Nat) (hk : k = 1 ∨ k = 3 ∨ k = 4) (r : ByteArray) (w : World) (hr : r.size ≤ 3000) (hc : w.cell? ⟨b, 0, none⟩ = some (.string r)) (hb : b < w.heap.size) :
    Calls Try.prog 8 #[.int .i64 (k : Int), .pointer (some ⟨b, 0, none⟩)] w fun e w' => e = .returned (.int .i64 ((encS ((k : Int), 0) r.data.toList).length : Nat)) ∧ Below w.heap.size w w' := by
  have hch : chkR [((k : Int), 0)] = 0 := by
    rcases hk with rfl | rfl | rfl
    · exact chkR_runs
    · exact chkR_copies
    · exact chkR_text
  have hER : EncR [((k : Int), 0)] r.data.toList = (encS ((k : Int), 0) r.data.toList, 0) := by
    unfold EncR
    rw [if_neg (by rw [hch]; simp), if_neg (by simp; omega)]
    rfl
  have HE : Hid (Calls Try.prog 9 #[.slice (some ⟨w.heap.size, 0, none⟩) 1 1, .string r] (w.alloc (.cells #[.int .i64 (k : Int), .int .i64 0] 27)) fun e w' => e = .returned (.tuple #[.string ⟨(encS ((k : Int), 0) r.data.toList).toArray⟩, .int .i64 0]) ∧ Below (w.alloc (.cells #[.int .i64 (k : Int), .int .i64 0] 27)).heap.size (w.alloc (.cells #[.int .i64 (k : Int), .int .i64 0] 27)) w') := by
    have := encode_chain [((k : Int), 0)] _ r _ (chm_one w k) (by omega)
    rw [hER] at this
    exact this
  have hl := encS_bound ((k : Int), 0) r.data.toList
  rw [show r.data.toList.length = r.size by simp] at hl
  have HB0 := Lib.hid ((Below.refl w.heap.size w).alloc (Nat.le_refl _) (Obj.cells #[Value.int IntKind.i64 (k : Int), Value.int IntKind.i64 0] 27))
  clear hER hch
  generalize encS ((k : Int), 0) r.data.toList = R at *
  go_enter Try.func8, Try.ntmps8
  go_wp2_with fail
  ((with_reducible refine HE.out.mono ?_); rintro e w2 ⟨rfl, hb2⟩)
  have HB2 := Lib.hid (HB0.out.trans (hb2.mono HB0.out.size))
  clear hb2
  go_wp2_with fail
  go_ret
  exact ⟨endInt (by simp), HB2.out⟩
theorem four_a : (encR [97, 97, 97, 97]).length = 2 := by rw [encR_length]; decide
theorem enc_four (w : World) : Calls Try.prog 9 #[.slice (some ⟨w.heap.size, 0, none⟩) 1 1, .string ⟨#[97, 97, 97, 97]⟩] (w.alloc (.cells #[.int .i64 1, .int .i64 0] 27)) fun e w' => e = .returned (.tuple #[.string ⟨(encR [97, 97, 97, 97]).toArray⟩, .int .i64 0]) ∧ Below w.heap.size w w' := by
  refine (encode_chain [(1, 0)] _ ⟨#[97, 97, 97, 97]⟩ _ (chm_one w 1) (by decide)).mono ?_
  rintro e w' ⟨rfl, hb⟩
  have h : EncR [(1, 0)] (⟨#[97, 97, 97, 97]⟩ : ByteArray).data.toList = (encR [97, 97, 97, 97], 0) := by
    unfold EncR
    rw [chkR_runs, if_neg (by simp), if_neg (by decide)]
    rfl
  exact ⟨by rw [h], ((Below.refl w.heap.size w).alloc (Nat.le_refl _) _).trans (hb.mono (by simp))⟩
set_option maxRecDepth 100000 in
set_option maxHeartbeats 4000000 in
theorem bounds_any (s : ByteArray) (w : World) (hs : s.size ≤ 9223372036854775807) :
    Calls Try.prog 3 #[.string s] w (RtPost w) := by
  have HPost : Hid (∀ w', Below w.heap.size w w' → RtPost w (.returned (.bool true)) w') := fun w' h => ⟨rfl, h⟩
  generalize RtPost w = Post at *
  have HH := Lib.hid (fun W => head_any s W hs)
  have hr : (s.extract 0 (min s.size 3000)).size ≤ 3000 := by rw [ByteArray.size_extract]; omega
  generalize s.extract 0 (min s.size 3000) = r at *
  have hlen : r.data.toList.length = r.size := by simp
  have b1 := encR_bound r.data.toList
  have b3 := encC_bound r.data.toList
  have b4 := enc_bound r.data.toList
  rw [hlen] at b1 b3 b4
  have HS : Hid (∀ k : Nat, k = 1 ∨ k = 3 ∨ k = 4 → ∀ W, W.cell? ⟨w.heap.size, 0, none⟩ = some (.string r) → w.heap.size < W.heap.size → Calls Try.prog 8 #[.int .i64 (k : Int), .pointer (some ⟨w.heap.size, 0, none⟩)] W fun e w' => e = .returned (.int .i64 ((encS ((k : Int), 0) r.data.toList).length : Nat)) ∧ Below W.heap.size W w') := fun k hk W hc hb => size_any k w.heap.size hk r W hr hc hb
  have S1 : Hid (∀ W, W.cell? ⟨w.heap.size, 0, none⟩ = some (.string r) → w.heap.size < W.heap.size → Calls Try.prog 8 #[.int .i64 1, .pointer (some ⟨w.heap.size, 0, none⟩)] W fun e w' => e = .returned (.int .i64 ((encR r.data.toList).length : Nat)) ∧ Below W.heap.size W w') := HS.out 1 (.inl rfl)
  have S3 : Hid (∀ W, W.cell? ⟨w.heap.size, 0, none⟩ = some (.string r) → w.heap.size < W.heap.size → Calls Try.prog 8 #[.int .i64 3, .pointer (some ⟨w.heap.size, 0, none⟩)] W fun e w' => e = .returned (.int .i64 ((encC r.data.toList).length : Nat)) ∧ Below W.heap.size W w') := HS.out 3 (.inr (.inl rfl))
  have S4 : Hid (∀ W, W.cell? ⟨w.heap.size, 0, none⟩ = some (.string r) → w.heap.size < W.heap.size → Calls Try.prog 8 #[.int .i64 4, .pointer (some ⟨w.heap.size, 0, none⟩)] W fun e w' => e = .returned (.int .i64 ((enc r.data.toList).length : Nat)) ∧ Below W.heap.size W w') := HS.out 4 (.inr (.inr rfl))
  clear HS hlen
  generalize (encR r.data.toList).length = n1 at *
  generalize (encC r.data.toList).length = n3 at *
  generalize (enc r.data.toList).length = n4 at *
  go_enter Try.func3, Try.ntmps3
  go_wp2_with fail
  ((with_reducible refine (HH.out _).mono ?_); rintro e w2 ⟨rfl, rfl⟩)
  go_wp2_with fail
  have HF := Lib.hid (enc_four (w.alloc (Obj.cells #[Value.string r] 9)))
  rw [show (w.alloc (Obj.cells #[Value.string r] 9)).heap.size = w.heap.size + 1 by simp] at HF
  have h4 := four_a
  have h4' : (⟨(encR [97, 97, 97, 97]).toArray⟩ : ByteArray).size = 2 := by show (encR [97, 97, 97, 97]).toArray.size = 2; simpa using h4
  generalize (⟨(encR [97, 97, 97, 97]).toArray⟩ : ByteArray) = fa at *
  have H4 := Lib.hid h4'
  clear h4 h4'
  ((with_reducible refine HF.out.mono ?_); rintro e w2 ⟨rfl, hb2⟩)
  have q0 : w2.cell? ⟨w.heap.size, 0, none⟩ = some (.string r) := (hb2.cell (p := ⟨w.heap.size, 0, none⟩) (by simp)).trans (new_one w _ _)
  have hz2 : w.heap.size < w2.heap.size := by have := hb2.size; simp at this; omega
  have HB2 : Hid (Below w.heap.size w w2) := ((Below.refl w.heap.size w).alloc (Nat.le_refl _) (Obj.cells #[Value.string r] 9)).trans (hb2.mono (by omega))
  clear hb2 HF
  have hfa := H4.out
  have t1 : decide ((n1 : Int) ≤ (r.size : Int) + ((r.size : Int) + 127) / 128) = true := by simp; omega
  have t3 : decide ((n3 : Int) ≤ (r.size : Int) + ((r.size : Int) + 127) / 128) = true := by simp; omega
  have t4 : decide ((n4 : Int) ≤ (r.size : Int) + ((r.size : Int) + 3) / 4) = true := by simp; omega
  go_wp2_with fail
  ((with_reducible refine (S1.out _ q0 hz2).mono ?_); rintro e w3 ⟨rfl, hb3⟩)
  have q3 := (hb3.cell (p := ⟨w.heap.size, 0, none⟩) hz2).trans q0
  have hz3 : w.heap.size < w3.heap.size := by have := hb3.size; omega
  have HB3 := Lib.hid (HB2.out.trans (hb3.mono HB2.out.size))
  clear hb3 q0
  go_wp2_with fail
  ((with_reducible refine (S3.out _ q3 hz3).mono ?_); rintro e w4 ⟨rfl, hb4⟩)
  have q4 := (hb4.cell (p := ⟨w.heap.size, 0, none⟩) hz3).trans q3
  have hz4 : w.heap.size < w4.heap.size := by have := hb4.size; omega
  have HB4 := Lib.hid (HB3.out.trans (hb4.mono HB3.out.size))
  clear hb4 q3
  go_wp2_with fail
  ((with_reducible refine (S4.out _ q4 hz4).mono ?_); rintro e w5 ⟨rfl, hb5⟩)
  have HB5 := Lib.hid (HB4.out.trans (hb5.mono HB4.out.size))
  clear hb5 q4
  go_wp2_with fail
  exact HPost.out _ HB5.out
end Go.Proofs.Ytdibgloaknnfgaa
