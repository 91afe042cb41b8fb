/- The walk of text.encode. -/
import Derived.Test.YtdibgloaknnfgaaUngroup
import Derived.Test.YtdibgloaknnfgaaBuilder
namespace Go.Proofs.Ytdibgloaknnfgaa
open Go.RowKit
/-- The code of bytes: each four of them by group. -/
def enc (l : List UInt8) : List UInt8 := if _h : l.length = 0 then [] else grp (l.take 4) ++ enc (l.drop 4)
termination_by l.length
decreasing_by rw [List.length_drop]; omega
theorem enc_nil {l : List UInt8} (h : l.length = 0) : enc l = [] := by rw [enc, dif_pos h]
theorem enc_more {l : List UInt8} (h : l.length ≠ 0) : enc l = grp (l.take 4) ++ enc (l.drop 4) := by conv => lhs; rw [enc, dif_neg h]
theorem grp_length (l : List UInt8) : (grp l).length ≤ l.length + 1 := by
  unfold grp; split <;> simp
theorem byteCells_append (a b : List UInt8) : Lib.byteCells (a ++ b) = Lib.byteCells a ++ Lib.byteCells b := by simp [Lib.byteCells]
theorem strCells_of (l : List UInt8) : Lib.strCells ⟨l.toArray⟩ = Lib.byteCells l := by simp [Lib.strCells, Lib.byteCells]
/-- The builder of a call in block B + 1 holding l. -/
def Bd (B : Nat) (l : List UInt8) (w : World) : Prop := Lib.IsBuilder 66 5 B (B + 1) (Lib.byteCells l) w
theorem bd_new (w : World) (v : Obj) : Bd w.heap.size [] ((w.alloc v).alloc (.cells #[.pointer none, .slice none 0 0] 66)) := by
  have h := Blk.new (w.alloc v) 66 #[.pointer none, .slice none 0 0]
  refine .inl ⟨by omega, .slice none 0 0, by simpa [Blk] using h, ⟨rfl, .inl ⟨rfl, rfl⟩⟩, by simp [Value.ownBlock]⟩
theorem bd_write {B : Nat} {l : List UInt8} {w : World} (h : Bd B l w) (t : List UInt8) (hl : l.length + t.length ≤ 10000000) (hB : B ≤ w.heap.size) :
    Calls Try.prog 33 #[.pointer (some ⟨B + 1, 0, none⟩), .string ⟨t.toArray⟩] w fun e w' => e = .returned (.tuple #[.int .i64 t.length, .nilIface]) ∧ Bd B (l ++ t) w' ∧ Below B w w' := by
  refine (Builder_WriteString B (B + 1) _ ⟨t.toArray⟩ w h ?_ hB).mono ?_
  · rw [Lib.byteCells_length]; show l.length + t.toArray.size ≤ _; simp; omega
  · rintro e w' ⟨rfl, h1, h2⟩
    refine ⟨?_, ?_, h2⟩
    · rw [show (⟨t.toArray⟩ : ByteArray).size = t.length by show t.toArray.size = _; simp]
    · rw [strCells_of, ← byteCells_append] at h1; exact .inr h1
theorem bd_below {B : Nat} {l : List UInt8} {w w' : World} (h : Bd B l w) (hb : Below w.heap.size w w') : Bd B l w' := by
  rcases h with h | h
  · obtain ⟨hB, v, hbk, hown, hne⟩ := h
    exact .inl ⟨hB, v, (hb.block _ (Lib.BuilderAt.lt ⟨hB, v, hbk, hown, hne⟩)).trans hbk, own_below hown hb, hne⟩
  · obtain ⟨hB, v, hbk, hown, hne⟩ := h
    exact .inr ⟨hB, v, (hb.block _ (Lib.BuilderAt.lt ⟨hB, v, hbk, hown, hne⟩)).trans hbk, own_below hown hb, hne⟩
theorem take_min (l : List UInt8) (n k : Nat) (h : l.length = n) : l.take k = l.take (min n k) := List.take_eq_take_iff.2 (by omega)
theorem drop_min (l : List UInt8) (n k : Nat) (h : l.length = n) : l.drop (min n k) = l.drop k := by
  rcases Nat.le_total n k with h2 | h2
  · rw [Nat.min_eq_left h2, List.drop_of_length_le (by omega), List.drop_of_length_le (by omega)]
  · rw [Nat.min_eq_right h2]
def szOf : Value → Nat
  | .string r => r.size
  | _ => 0
theorem encode_any (s : ByteArray) (w : World) (hs : s.size ≤ 1000000) :
    Calls Try.prog 57 #[.agg #[], .string s] w fun e w' => e = .returned (.string ⟨(enc s.data.toList).toArray⟩) ∧ Below w.heap.size w w' := by
  have HN := Lib.hid (bd_new w (.cells #[] 47))
  have HB0 := Lib.hid (((Below.refl w.heap.size w).alloc (Nat.le_refl _) (.cells #[] 47)).alloc (by simp) (.cells #[.pointer none, .slice none 0 0] 66))
  generalize hE : enc s.data.toList = E
  have HE := Lib.hid hE
  clear hE
  go_enter Try.func57, Try.ntmps57
  go_wp2
  go_loopw [1] (fun vr wr => ∃ (r : ByteArray) (l : List UInt8), vr = .string r ∧ l.length + 2 * r.size ≤ 2 * s.size ∧ l ++ enc r.data.toList = E ∧ Bd w.heap.size l wr ∧ Below w.heap.size w wr) (fun vr _ => szOf vr)
  case atStart => exact ⟨s, [], rfl, by simp, by simpa using HE.out, HN.out, HB0.out⟩
  case round =>
    obtain ⟨r, l, rfl, hl, he, hbd, hb⟩ := hrel
    have HBd := Lib.hid hbd
    have HB := Lib.hid hb
    have HEr := Lib.hid he
    clear hbd hb he
    by_cases hr : r.size = 0
    · have hre : r = ⟨#[]⟩ := by
        obtain ⟨d⟩ := r
        have : d.size = 0 := hr
        rw [Array.eq_empty_of_size_eq_zero this]
      subst hre
      have hEl : l = E := by have := HEr.out; rwa [enc_nil rfl, List.append_nil] at this
      subst hEl
      go_wp2_with (go_at_call 36; refine (Builder_String_any w.heap.size _ _ _ HBd.out HB.out.size).mono ?_; rintro e w2 ⟨rfl, hb2⟩; have HB2 := Lib.hid hb2; clear hb2)
      go_ret
      exact ⟨rfl, HB.out.trans HB2.out⟩
    · have hk : (min (r.size : Int) 4).toNat = min r.size 4 := by omega
      have HK := Lib.hid hk
      have hrl : r.data.toList.length ≠ 0 := by simpa using hr
      have HG : Hid (∀ w', Calls Try.prog 59 #[.string (r.extract 0 (min (r.size : Int) 4).toNat)] w' fun e w'' => e = .returned (.string ⟨(grp (r.data.toList.take 4)).toArray⟩) ∧ Below w'.heap.size w' w'') := fun w' => by
        have := group_any (r.extract 0 (min r.size 4)) w' (by simp [ByteArray.size_extract]; omega) (by simp [ByteArray.size_extract]; omega)
        rw [Lib.extract_data, List.drop_zero, Nat.sub_zero] at this
        rw [hk]
        rw [take_min _ r.size 4 (by simp)]
        exact this
      have HE2 : Hid (l ++ grp (r.data.toList.take 4) ++ enc (r.data.toList.drop 4) = E) := by
        have := HEr.out; rw [enc_more hrl] at this; rw [List.append_assoc]; exact this
      have hgl : (grp (r.data.toList.take 4)).length ≤ min r.size 4 + 1 := by have := grp_length (r.data.toList.take 4); rw [List.length_take] at this; simpa [Nat.min_comm] using this
      have HGl := Lib.hid hgl
      have hq : r.toList.isEmpty = false := by rw [Lib.toList_data]; cases hd : r.data.toList with | nil => exact absurd (by rw [hd]; rfl) hrl | cons a b => rfl
      clear hgl hk hrl
      generalize grp (r.data.toList.take 4) = G at *
      go_wp2_with (first
        | (go_at_call 59; refine (HG.out _).mono ?_; rintro e w2 ⟨rfl, hb2⟩; have HB2 := Lib.hid hb2; clear hb2)
        | (go_at_call 33; refine (bd_write (bd_below HBd.out HB2.out) G (by have := HGl.out; omega) (Nat.le_trans HB.out.size HB2.out.size)).mono ?_; rintro e w3 ⟨rfl, hbd2, hb2⟩; have HB3 := Lib.hid hb2; have HBd2 := Lib.hid hbd2; clear hb2 hbd2))
      have H2 := HB.out.trans (HB2.out.mono HB.out.size)
      have hx := HK.out
      refine ⟨⟨r.extract (min (r.size : Int) 4).toNat r.size, l ++ G, rfl, ?_, ?_, HBd2.out, H2.trans HB3.out⟩, ?_⟩
      · have := HGl.out; rw [ByteArray.size_extract, List.length_append]; omega
      · rw [hx, Lib.extract_data, List.take_of_length_le (by simp), drop_min _ _ _ (by simp)]; exact HE2.out
      · show (r.extract _ _).size < r.size; rw [ByteArray.size_extract]; omega
end Go.Proofs.Ytdibgloaknnfgaa
