/- The walk of fonts: the law's own first test is true. -/
import Derived.Test.YtefkglmdkjkbiaaDoorFntLet
import Derived.Test.YtefkglmdkjkbiaaDoorFntHp
namespace Go.Proofs.YtefkglmdkjkbiaaDoor
open Go.RowKit Fnt
theorem let_enc : encV LET = .tuple #[.string ⟨(Fnt.written LET).toArray⟩, .int .i64 0] := by unfold encV; rw [if_pos let_check]
theorem let_pref : hasP ⟨(Fnt.written LET).toArray⟩ ⟨#[102, 111, 110, 116, 0, 16, 3, 1, 0]⟩ = true := by
  obtain ⟨r, hr⟩ := let_head
  rw [hr]; exact hasP_append [102, 111, 110, 116, 0, 16, 3, 1, 0] r
set_option maxHeartbeats 4000000 in
theorem fonts_any (w : World) (hT : Tab w) (h0 : 0 < w.heap.size) : Calls Tryd.prog 9 #[] w fun e w' => e = .returned (.bool true) ∧ Below w.heap.size w w' := by
  have HTw : Hid (∀ ww, Below w.heap.size w ww → Tab ww) := fun ww hb i hi => (hb.cell (p := ⟨0, i, none⟩) h0).trans (hT i hi)
  have HEn : Hid (∀ v W, FntV W (fun b => w.heap.size ≤ b) v LET → Below w.heap.size w W → Calls Tryd.prog 12 #[v] W fun e w' => e = .returned (.tuple #[.string ⟨(Fnt.written LET).toArray⟩, .int .i64 0]) ∧ Below W.heap.size W w') := fun v W hf hb => by
    have := encode_any LET v _ W hf (HTw.out W hb) (Nat.lt_of_lt_of_le h0 hb.size)
    rw [let_enc] at this
    exact this
  have HPl : Hid (∀ v W, FntV W (fun b => w.heap.size ≤ b) v LET → Below w.heap.size w W → Calls Tryd.prog 10 #[v, .slice (some ⟨W.heap.size, 0, none⟩) 3 3] (W.alloc (.cells #[.int .i64 97, .int .i64 98, .int .i64 97] 3)) fun e w' => ∃ u, e = .returned (.tuple #[u, .int .i64 26, .int .i64 0]) ∧ Below w.heap.size w w') := fun v W hf hb => by
    have hb2 := hb.alloc hb.size (.cells #[.int .i64 97, .int .i64 98, .int .i64 97] 3)
    have := places_ok LET v [97, 98, 97] (.slice (some ⟨W.heap.size, 0, none⟩) 3 3) (fun _ => True) _ (W.alloc (.cells #[.int .i64 97, .int .i64 98, .int .i64 97] 3)) (hf.later ((Below.refl _ _).alloc (Nat.le_refl _) _)) (Sl.of_m (slM_blk (ok := fun _ => True) (Blk.new W 3 #[.int .i64 97, .int .i64 98, .int .i64 97]) rfl trivial (by decide)) rfl) (HTw.out _ hb2) (Nat.lt_of_lt_of_le h0 hb2.size) let_check (by decide)
    refine this.mono ?_
    rintro e w' ⟨u, rfl, _, hb3⟩
    exact ⟨u, by rw [show ([97, 98, 97] : List Int).length = 3 from rfl, let_wid], hb2.trans (hb3.mono hb2.size)⟩
  have HHp := Lib.hid fun W => hasP33 ⟨(Fnt.written LET).toArray⟩ ⟨#[102, 111, 110, 116, 0, 16, 3, 1, 0]⟩ W
  rw [let_pref] at HHp
  generalize (⟨(Fnt.written LET).toArray⟩ : ByteArray) = s at *
  clear hT
  go_enter Tryd.func9, Tryd.ntmps9
  go_wp2_with fail
  refine (letters_any w).mono ?_
  rintro e w1 ⟨v, rfl, hf, hb⟩
  have HB1 := Lib.hid hb
  have HE1 := Lib.hid (HEn.out v w1 hf hb)
  clear hf hb
  go_wp2_with fail
  refine HE1.out.mono ?_
  rintro e w2 ⟨rfl, hb2⟩
  have HB2 := Lib.hid (HB1.out.trans (hb2.mono HB1.out.size))
  clear hb2
  go_wp2_with fail
  refine (letters_any w2).mono ?_
  rintro e w3 ⟨v3, rfl, hf, hb⟩
  have hb3 := HB2.out.trans (hb.mono HB2.out.size)
  have HB3 := Lib.hid hb3
  have HE3 := Lib.hid (HPl.out v3 w3 (by
    obtain ⟨vg, vm, vk, rfl, hgs, hmp, hkn⟩ := hf
    have hz := HB2.out.size
    obtain ⟨vs, a, b⟩ := hgs
    refine ⟨vg, vm, vk, rfl, ⟨vs, a.mono fun b hl ho => by omega, fun i hi => ⟨?_, (b i hi).2.mono fun b hl ho => by omega⟩⟩, hmp.mono fun b hl ho => by omega, hkn.mono fun b hl ho => by omega⟩
    obtain ⟨us, c, d⟩ := (b i hi).1
    exact ⟨us, c.mono fun b hl ho => by omega, fun j hj => (d j hj).mono fun b hl ho => by omega⟩) hb3)
  clear hf hb hb3
  go_wp2_with fail
  refine HE3.out.mono ?_
  rintro e w4 ⟨u, rfl, hb4⟩
  have HB4 := Lib.hid hb4
  clear hb4
  go_wp2_with fail
  refine (HHp.out _).mono ?_
  rintro e w5 ⟨rfl, rfl⟩
  go_wp2
  go_ret
  exact ⟨rfl, HB4.out⟩
end Go.Proofs.YtefkglmdkjkbiaaDoor
