/- The walk of FilterRoundTrip; its first argument opened. -/
import Derived.Test.YtdibgloaknnfgaaFltDec
import Derived.Deep.Slices
import Derived.Deep.Fields
import Derived.ChangeSame
import Derived.SizedLaws
import Derived.Lib.SmallJoins
namespace Go.Proofs.Ytdibgloaknnfgaa
open Go.RowKit
theorem chkR_text : chkR [(4, 0)] = 0 := by decide
theorem chkR_runs : chkR [(1, 0)] = 0 := by decide
theorem chkR_copies : chkR [(3, 0)] = 0 := by decide
theorem enc_start : enc [1, 2] = [33, 60, 78] := by
  have h : grp [1, 2] = [33, 60, 78] := by decide
  rw [enc_more (by decide), show List.take 4 [(1 : UInt8), 2] = [1, 2] from rfl, h, enc_nil (by decide)]
  rfl
theorem chm_one (w : World) (k : Int) : ChM (w.alloc (.cells #[.int .i64 k, .int .i64 0] 27)) (.slice (some ⟨w.heap.size, 0, none⟩) 1 1) [(k, 0)] := by
  have h := Blk.new w 27 #[.int .i64 k, .int .i64 0]
  refine ⟨_, 1, rfl, Nat.le_refl _, by unfold maxLen; omega, fun _ => ⟨w.heap.size, 0, rfl, by simp, fun i hi => ?_⟩⟩
  obtain rfl : i = 0 := by simp at hi; omega
  exact ⟨by rw [h.cell]; rfl, by rw [h.cell]; rfl⟩
def RtPost (w : World) (e : Ending) (w' : World) : Prop := e = .returned (.bool true) ∧ Below w.heap.size w w'
set_option maxRecDepth 100000 in
set_option maxHeartbeats 4000000 in
theorem roundtrip_any (cs : List Stp) (v : Value) (s : ByteArray) (w : World) (h : ChM w v cs) (hs : s.size ≤ 281474976710656) :
    Calls Try.prog 5 #[v, .string s] w (RtPost w) := by
  have HPost : Hid (∀ w', Below w.heap.size w w' → RtPost w (.returned (.bool true)) w') := fun w' h => ⟨rfl, h⟩
  generalize RtPost w = Post at *
  have HM := Lib.hid h
  have hlen : s.data.toList.length = s.size := by simp
  have hb0 := (Below.refl w.heap.size w).alloc (Nat.le_refl _) (Obj.cells #[Value.int IntKind.i64 4, Value.int IntKind.i64 0] 27)
  have HB0 := Lib.hid hb0
  have HE0 : Hid (Calls Try.prog 9 #[.slice (some ⟨w.heap.size, 0, none⟩) 1 1, .string ⟨#[1, 2]⟩] (w.alloc (.cells #[.int .i64 4, .int .i64 0] 27)) fun e w' => e = .returned (.tuple #[.string ⟨#[33, 60, 78]⟩, .int .i64 0]) ∧ Below (w.alloc (.cells #[.int .i64 4, .int .i64 0] 27)).heap.size (w.alloc (.cells #[.int .i64 4, .int .i64 0] 27)) w') := by
    refine (encode_chain [(4, 0)] _ ⟨#[1, 2]⟩ _ (chm_one w 4) (by decide)).mono ?_
    rintro e w' ⟨rfl, hb⟩
    refine ⟨?_, hb⟩
    have : EncR [(4, 0)] (⟨#[1, 2]⟩ : ByteArray).data.toList = ([33, 60, 78], 0) := by
      unfold EncR
      rw [chkR_text, if_neg (by simp), if_neg (by decide)]
      show (encS (4, 0) [1, 2], (0 : Int)) = _
      simp only [encS]
      rw [if_neg (by decide), if_neg (by decide), if_neg (by decide), enc_start]
    rw [this]
  have HEn : Hid (∀ W, Below w.heap.size w W → Calls Try.prog 9 #[v, .string s] W (UngPost W (EncR cs s.data.toList))) := fun W hW => encode_chain cs v s W (h.later hW) hs
  have HCk : Hid (∀ W, Below w.heap.size w W → Calls Try.prog 12 #[v] W fun e w' => e = .returned (.int .i64 (chkR cs)) ∧ Below W.heap.size W w') := fun W hW => check_any cs v W (h.later hW)
  have HDc : Hid (chkR cs = 0 → s.size ≤ 16384 → ∀ W, Below w.heap.size w W → Calls Try.prog 11 #[v, .string ⟨(encA cs s.data.toList).toArray⟩] W fun e w' => e = .returned (.tuple #[.string s, .int .i64 0]) ∧ Below W.heap.size W w') := fun hc hl W hW => by
    refine (decode_chain cs v s.data.toList ⟨(encA cs s.data.toList).toArray⟩ W (h.later hW) hc (by omega) (by simp)).mono ?_
    rintro e w' ⟨rfl, hb⟩
    exact ⟨rfl, hb⟩
  clear h hb0 hlen
  obtain ⟨A, cap, rfl, -⟩ := HM.out
  clear HM
  by_cases hc : chkR cs = 0
  · by_cases hbig : 16384 < s.size
    · have hER : EncR cs s.data.toList = ([], 2) := by unfold EncR; rw [if_neg (by rw [hc]; simp), if_pos (by simpa using hbig)]
      rw [hER] at HEn
      rw [hc] at HCk
      clear hER HDc hc
      have g1 : decide ((s.size : Int) > 16384) = true := by simp; omega
      go_enter Try.func5, Try.ntmps5
      go_wp2_with fail
      ((with_reducible refine HE0.out.mono ?_); rintro e w2 ⟨rfl, hb2⟩)
      have HB2 := Lib.hid (HB0.out.trans (hb2.mono HB0.out.size))
      clear hb2
      go_wp2_with fail
      ((with_reducible refine (HEn.out _ HB2.out).mono ?_); rintro e w3 ⟨rfl, hb3⟩)
      have HB3 := Lib.hid (HB2.out.trans (hb3.mono HB2.out.size))
      clear hb3
      go_wp2_with fail
      ((with_reducible refine (HCk.out _ HB3.out).mono ?_); rintro e w4 ⟨rfl, hb4⟩)
      have HB4 := Lib.hid (HB3.out.trans (hb4.mono HB3.out.size))
      clear hb4
      go_wp2_with fail
      exact HPost.out _ HB4.out
    · have hER : EncR cs s.data.toList = (encA cs s.data.toList, 0) := by unfold EncR; rw [if_neg (by rw [hc]; simp), if_neg (by simpa using hbig)]
      rw [hER] at HEn
      have HDc2 := Lib.hid (HDc.out hc (by omega))
      clear hER HDc hc
      generalize encA cs s.data.toList = R at *
      go_enter Try.func5, Try.ntmps5
      go_wp2_with fail
      ((with_reducible refine HE0.out.mono ?_); rintro e w2 ⟨rfl, hb2⟩)
      have HB2 := Lib.hid (HB0.out.trans (hb2.mono HB0.out.size))
      clear hb2
      go_wp2_with fail
      ((with_reducible refine (HEn.out _ HB2.out).mono ?_); rintro e w3 ⟨rfl, hb3⟩)
      have HB3 := Lib.hid (HB2.out.trans (hb3.mono HB2.out.size))
      clear hb3
      go_wp2_with fail
      ((with_reducible refine (HDc2.out _ HB3.out).mono ?_); rintro e w4 ⟨rfl, hb4⟩)
      have HB4 := Lib.hid (HB3.out.trans (hb4.mono HB3.out.size))
      clear hb4
      go_wp2_with fail
      exact HPost.out _ HB4.out
  · have hER : EncR cs s.data.toList = ([], chkR cs) := by unfold EncR; rw [if_pos hc]
    rw [hER] at HEn
    have g1 : (chkR cs != 0) = true := by simpa using hc
    have g2 : (chkR cs == chkR cs) = true := by simp
    clear hER HDc hc
    generalize chkR cs = c at *
    go_enter Try.func5, Try.ntmps5
    go_wp2_with fail
    ((with_reducible refine HE0.out.mono ?_); rintro e w2 ⟨rfl, hb2⟩)
    have HB2 := Lib.hid (HB0.out.trans (hb2.mono HB0.out.size))
    clear hb2
    go_wp2_with fail
    ((with_reducible refine (HEn.out _ HB2.out).mono ?_); rintro e w3 ⟨rfl, hb3⟩)
    have HB3 := Lib.hid (HB2.out.trans (hb3.mono HB2.out.size))
    clear hb3
    go_wp2_with fail
    ((with_reducible refine (HCk.out _ HB3.out).mono ?_); rintro e w4 ⟨rfl, hb4⟩)
    have HB4 := Lib.hid (HB3.out.trans (hb4.mono HB3.out.size))
    clear hb4
    go_wp2_with fail
    exact HPost.out _ HB4.out
open Go.Joins Go.ChangeShapes Go.WideShapes Go.ChangeAt Go.Deep
section
variable {H : Type} {enc : TypeId × Value → H} {P : Program} {w : World} {base : Nat} {spare : Nat → Bool} {held : Bool}
theorem open_slice_fields {t e : TypeId} {fs : Array Field} {fuel : Nat} {cs : List Value} {x : DataW H × List MemPlace} (ht : P.underlying t = some (.slice e)) (he : P.underlying e = some (.struct fs))
    (hone : oneCellFields P fs = true) (hC : P.cellsOf e = fs.size) (h : DataW.trod enc P w base spare held fuel t cs = some x) :
    (cs = [.slice none 0 0] ∧ x = (.nil, [])) ∨
    ∃ (a : Addr) (len cap m : Nat) (D : Nat → DataW H) (Pl : Nat → List MemPlace), cs = [.slice (some a) len cap] ∧ base ≤ a.block ∧ len ≤ cap ∧ cap ≤ maxLen ∧ m = (if spare a.block then cap else len) ∧
      x = (.slice ((List.range len).map D) ((List.range (m - len)).map fun j => D (len + j)), MemPlace.row a (m * fs.size) ++ (List.range m).flatMap Pl) ∧
      ∀ i, i < m → ∃ (ys : List (DataW H × List MemPlace)) (n : Nat), D i = .agg (ys.map (·.1)) ∧ Pl i = ys.flatMap (·.2) ∧ ys.length = fs.size ∧
        ∀ (j : Nat) (f : Field), fs[j]? = some f → ∃ (v : Value) (y : DataW H × List MemPlace), w.cell? (a.add (i * fs.size + j)) = some v ∧ ys[j]? = some y ∧ DataW.trod enc P w base spare held n f.type [v] = some y := by
  rcases open_slice ht h with h0 | ⟨a, len, cap, m, n, D, Pl, hcs, hb, hl, hm, hmm, hx, hi⟩
  · exact .inl h0
  · refine .inr ⟨a, len, cap, m, D, Pl, hcs, hb, hl, hm, hmm, by rw [hC] at hx; exact hx, fun i him => ?_⟩
    obtain ⟨cs', hc, ht'⟩ := hi i him
    rw [hC] at hc
    obtain ⟨ys, n', hn', hy, hlen, hyl, hf⟩ := DataW.trod_struct he ht'
    obtain ⟨_, hcl, hat⟩ := World.cells?_some hc
    simp only [Prod.mk.injEq] at hy
    refine ⟨ys, n', hy.1, hy.2, hyl, fun j f hj => ?_⟩
    obtain ⟨ho, hk⟩ := hone_of hone j f hj
    have hjl : j < fs.size := (Array.getElem?_eq_some_iff.1 hj).1
    have hcell := hat j hjl
    have hv : cs'[j]? = some (cs'[j]'(by omega)) := List.getElem?_eq_getElem (by omega)
    have h1 := hf j f hj
    rw [ho, hk] at h1
    have hone' : (cs'.drop j).take 1 = [cs'[j]'(by omega)] := by
      rw [List.drop_eq_getElem_cons (by omega)]
      rfl
    rw [hone'] at h1
    have hys : ys[j]? = some (ys[j]'(by omega)) := List.getElem?_eq_getElem (by omega)
    refine ⟨_, _, ?_, hys, h1.trans hys⟩
    rw [← Go.Deep.add_add, hcell, hv]
end
theorem cells_step : Try.prog.cellsOf 27 = 2 := by kernel_rfl
theorem open_chain {H : Type} {enc : TypeId × Value → H} {W : World} {base : Nat} {v : Value} {d : DataW H} {p : List MemPlace} (hv : Value.okWide Try.prog W .any base 28 v) (h : DataW.Trod enc Try.prog W 0 (fun _ => true) true 28 v d p) :
    ∃ cs : List Stp, ChM W v cs := by
  obtain ⟨a0, len0, cap0, rfl⟩ := okWide_slice Try.underlying28 hv
  obtain ⟨fuel, hf⟩ := h
  rcases open_slice_fields Try.underlying28 Try.underlying27 (by kernel_rfl) cells_step hf with ⟨hc, hx⟩ | ⟨a, len, cap, m, D, Pl, hc, _, hl, hm, hmm, hx, hall⟩
  · simp only [Value.cells, List.cons.injEq, and_true] at hc
    rw [hc]
    exact ⟨[], none, 0, rfl, Nat.le_refl _, by simp, fun h => absurd h (by simp)⟩
  · simp only [Value.cells, List.cons.injEq, and_true] at hc
    rw [hc]
    simp only [if_true] at hmm
    subst hmm
    have hone : ∀ i, i < len → ∃ f : Stp, W.cell? (a.add (i * 2)) = some (.int .i64 f.1) ∧ W.cell? (a.add (i * 2 + 1)) = some (.int .i64 f.2) := fun i hi => by
      obtain ⟨ys, k, hD, hPl, hlen, hf⟩ := hall i (by omega)
      obtain ⟨v0, y0, c0, e0, t0⟩ := hf 0 _ rfl
      obtain ⟨v1, y1, c1, e1, t1⟩ := hf 1 _ rfl
      obtain ⟨z0, q0, _, _⟩ := DataW.trod_int Try.underlying3 t0
      obtain ⟨z1, q1, _, _⟩ := DataW.trod_int Try.underlying3 t1
      simp only [List.cons.injEq, and_true] at q0 q1
      subst q0; subst q1
      exact ⟨(z0, z1), c0, c1⟩
    refine ⟨(List.range len).map fun i => if hi : i < len then (hone i hi).choose else (0, 0), ?_⟩
    have hlen : ((List.range len).map fun i => if hi : i < len then (hone i hi).choose else (0, 0)).length = len := by simp
    refine ⟨some a, m, by rw [hlen], by rw [hlen]; exact hl, hm, fun hn => ?_⟩
    rw [hlen] at hn
    obtain ⟨b, off, spot⟩ := a
    have hat : ∀ i, (hi : i < len) → ((List.range len).map fun i => if hi : i < len then (hone i hi).choose else (0, 0)).getD i (0, 0) = (hone i hi).choose := fun i hi => by
      simp only [List.getD_eq_getElem?_getD, List.getElem?_map, List.getElem?_range hi, Option.map_some, Option.getD_some, dif_pos hi]
    obtain ⟨f, c0, _⟩ := hone 0 hn
    have hs : spot = none := by simpa [Addr.add] using World.cell?_spot c0
    subst hs
    refine ⟨b, off, rfl, ?_, fun i hi => ?_⟩
    · rcases Nat.lt_or_ge b W.heap.size with h1 | h1
      · exact h1
      · rw [add_plain] at c0
        simp [World.cell?, Array.getElem?_eq_none h1] at c0
    · rw [hlen] at hi
      have ps := (hone i hi).choose_spec
      rw [← hat i hi] at ps
      obtain ⟨p0, p1⟩ := ps
      rw [add_plain] at p0 p1
      rw [← Nat.add_assoc] at p1
      exact ⟨p0, p1⟩
end Go.Proofs.Ytdibgloaknnfgaa
