/- The walk of FilterTextUnique. -/
import Derived.Test.YtdibgloaknnfgaaDecText
import Derived.Test.YtdibgloaknnfgaaUniqueLaw
namespace Go.Proofs.Ytdibgloaknnfgaa
open Go.RowKit
theorem decX_start : decX [33, 60, 78] = ([1, 2], 0) := by
  unfold decX; rw [decT_start, if_neg (by decide), if_neg (by simp), if_neg (by decide)]
theorem decX_bad (l : List UInt8) (h : (decX l).2 ≠ 0) : (decX l).1 = [] := by
  unfold decX at h ⊢
  repeat' split
  all_goals first | rfl | simp_all
theorem decX_ok (l : List UInt8) (h : (decX l).2 = 0) : enc (decX l).1 = l ∧ l.all prn = true ∧ (decX l).1.length ≤ 16384 := by
  unfold decX at h ⊢
  by_cases h1 : 65536 < l.length
  · rw [if_pos h1] at h; simp at h
  · rw [if_neg h1] at h ⊢
    by_cases h2 : (decT l []).2 ≠ 0
    · rw [if_pos h2] at h; exact absurd h h2
    · rw [if_neg h2] at h ⊢
      by_cases h3 : 16384 < (decT l []).1.length
      · rw [if_pos h3] at h; simp at h
      · rw [if_neg h3]
        obtain ⟨R, hR, he, hp⟩ := decT_ok l [] (decT l []).1 (by rw [show (0 : Int) = (decT l []).2 by simpa using (Classical.not_not.1 h2).symm])
        refine ⟨?_, hp, by show (decT l []).1.length ≤ _; omega⟩
        show enc (decT l []).1 = l
        rw [hR, List.nil_append]; exact he
def UqPost (w : World) (e : Ending) (w' : World) : Prop := e = .returned (.bool true) ∧ Below w.heap.size w w'
set_option maxHeartbeats 4000000 in
set_option maxRecDepth 100000 in
theorem unique_any (s : ByteArray) (w : World) (hs : s.size ≤ 9223372036854775807) :
    Calls Try.prog 6 #[.string s] w (UqPost w) := by
  have HPost : Hid (∀ w', Below w.heap.size w w' → UqPost w (.returned (.bool true)) w') := fun w' h => ⟨rfl, h⟩
  generalize UqPost w = Post at *
  have hone : One (w.alloc (.cells #[.int .i64 4, .int .i64 0] 27)) w.heap.size 0 4 0 := by
    have h := Blk.new w 27 #[.int .i64 4, .int .i64 0]
    exact ⟨by simp, by rw [h.cell 0]; rfl, by rw [h.cell (0 + 1)]; rfl⟩
  have hb0 := (Below.refl w.heap.size w).alloc (Nat.le_refl _) (Obj.cells #[Value.int IntKind.i64 4, Value.int IntKind.i64 0] 27)
  have HB0 := Lib.hid hb0
  have HO := Lib.hid hone
  have HD0 : Hid (∀ w', Below (w.alloc (.cells #[.int .i64 4, .int .i64 0] 27)).heap.size (w.alloc (.cells #[.int .i64 4, .int .i64 0] 27)) w' → Calls Try.prog 11 #[.slice (some ⟨w.heap.size, 0, none⟩) 1 1, .string ⟨#[33, 60, 78]⟩] w' (UngPost w' ([1, 2], 0))) := fun w' hb => by
    have := decode_text w.heap.size 0 1 ⟨#[33, 60, 78]⟩ w' (hone.later hb)
    rwa [show (⟨#[33, 60, 78]⟩ : ByteArray).data.toList = [33, 60, 78] from rfl, decX_start] at this
  have HD : Hid (∀ w', Below (w.alloc (.cells #[.int .i64 4, .int .i64 0] 27)).heap.size (w.alloc (.cells #[.int .i64 4, .int .i64 0] 27)) w' → Calls Try.prog 11 #[.slice (some ⟨w.heap.size, 0, none⟩) 1 1, .string s] w' (UngPost w' (decX s.data.toList))) := fun w' hb => decode_text w.heap.size 0 1 s w' (hone.later hb)
  have HBad := Lib.hid (decX_bad s.data.toList)
  have HOk := Lib.hid (decX_ok s.data.toList)
  generalize decX s.data.toList = X at *
  obtain ⟨D, e⟩ := X
  by_cases he : e = 0
  · subst he
    obtain ⟨h1, h2, h3⟩ := HOk.out rfl
    have HEn : Hid (∀ w', Below (w.alloc (.cells #[.int .i64 4, .int .i64 0] 27)).heap.size (w.alloc (.cells #[.int .i64 4, .int .i64 0] 27)) w' → Calls Try.prog 9 #[.slice (some ⟨w.heap.size, 0, none⟩) 1 1, .string ⟨D.toArray⟩] w' fun e w'' => e = .returned (.tuple #[.string s, .int .i64 0]) ∧ Below w'.heap.size w' w'') := fun w' hb => by
      refine (encode_text w.heap.size 0 1 ⟨D.toArray⟩ w' (hone.later hb) (by have h4 : D.length ≤ 16384 := h3; show D.toArray.size ≤ _; simpa using h4)).mono ?_
      rintro e w'' ⟨rfl, hb⟩
      refine ⟨?_, hb⟩
      have h4 : enc D = s.data.toList := h1
      rw [show (⟨D.toArray⟩ : ByteArray).data.toList = D by simp, h4]
    have HPr := Lib.hid h2
    clear hone hb0 h1 h2 h3 HBad HOk
    go_enter Try.func6, Try.ntmps6
    go_upto_region 3 with (first
      | (go_at_call 11; refine (HD0.out _ (Below.refl _ _)).mono ?_; rintro e w2 ⟨rfl, hb2⟩; have HB2 := Lib.hid hb2; clear hb2))
    go_upto_region 5 with (fail)
    go_upto_region 6 with (first
      | (go_at_call 11; refine (HD.out _ HB2.out).mono ?_; rintro e w3 ⟨rfl, hb3⟩; have HB3 := Lib.hid (HB2.out.trans (hb3.mono HB2.out.size)); clear hb3))
    clear HD HD0
    go_upto_region 8 with (fail)
    go_upto_region 9 with (first
      | (go_at_call 9; refine (HEn.out _ HB3.out).mono ?_; rintro e w4 ⟨rfl, hb4⟩; have HB4 := Lib.hid (HB3.out.trans (hb4.mono HB3.out.size)); clear hb4))
    go_upto_region 10 with (fail)
    go_loop [42] (fun vi => ∃ i : Nat, i ≤ s.size ∧ vi = .int .i64 (i : Int)) (fun i => s.size - (intOf i).toNat)
    case atStart => exact ⟨0, by omega, rfl⟩
    case round =>
      obtain ⟨i, hi, rfl⟩ := hrel
      by_cases his : i < s.size
      · have hp : 33 ≤ (s[i]'his).toNat ∧ (s[i]'his).toNat ≤ 122 := by
          have h2 : i < s.data.toList.length := by simpa using his
          have := List.all_eq_true.1 HPr.out (s.data.toList[i]) (List.getElem_mem h2)
          simp [prn] at this
          exact this
        obtain ⟨p1, p2⟩ := hp
        have e1 : (i : Int) < (s.size : Int) := by omega
        go_wp2
        exact ⟨⟨i + 1, by omega, by go_num⟩, by simp [intOf]; omega⟩
      · obtain rfl : i = s.size := by omega
        go_wp2
        exact HPost.out _ (HB0.out.trans (HB4.out.mono HB0.out.size))
  · obtain rfl : D = [] := HBad.out he
    have hne : (e != 0) = true := by simpa using he
    clear hone hb0 HBad HOk
    go_enter Try.func6, Try.ntmps6
    go_upto_region 3 with (first
      | (go_at_call 11; refine (HD0.out _ (Below.refl _ _)).mono ?_; rintro e w2 ⟨rfl, hb2⟩; have HB2 := Lib.hid hb2; clear hb2))
    go_upto_region 5 with (fail)
    go_upto_region 6 with (first
      | (go_at_call 11; refine (HD.out _ HB2.out).mono ?_; rintro e w3 ⟨rfl, hb3⟩; have HB3 := Lib.hid (HB2.out.trans (hb3.mono HB2.out.size)); clear hb3))
    clear HD HD0
    go_wp2
    exact HPost.out _ (HB0.out.trans (HB3.out.mono HB0.out.size))
end Go.Proofs.Ytdibgloaknnfgaa
