/- The walk of slices.Concat at []int: all elements, in order, in a slice of the call's own. -/
import Derived.Test.YtefkglmdkjkbiaaDoorGrowInts
import Derived.Deep.DeepMust
namespace Go.Proofs.YtefkglmdkjkbiaaDoor
open Go.RowKit
theorem concat_T : ElemT Tryd.prog 27 3 (.int .i64 0) 8 := ElemT.mk_ Tryd.underlying27 grow_info rfl
/-- How many elements the first k lists hold. -/
def total (Ls : List (List Int)) : Nat := Ls.flatten.length
theorem flatten_take_succ (Ls : List (List Int)) (k : Nat) (h : k < Ls.length) : (Ls.take (k + 1)).flatten = (Ls.take k).flatten ++ Ls[k] := by
  rw [List.take_succ_eq_append_getElem h, List.flatten_append]; simp
theorem flatten_take_le (Ls : List (List Int)) (k : Nat) : (Ls.take k).flatten.length ≤ Ls.flatten.length := by
  conv => rhs; rw [← List.take_append_drop k Ls, List.flatten_append]
  simp
set_option maxHeartbeats 1000000 in
theorem concat_ints (v : Value) (us : List Value) (Ls : List (List Int)) (w : World) (ok ok' : Nat → Prop) (hs : Sl w ok v us) (hl : us.length = Ls.length) (hin : ∀ i u, us[i]? = some u → Sl w ok' u (ints (Ls.getD i [])))
    (hbig : Ls.flatten.length ≤ 100000000) (hbig2 : Ls.length ≤ 100000000) :
    Calls Tryd.prog 11 #[v] w fun e w' => ∃ v', e = .returned v' ∧ w'.ownsRow w.heap.size 3 1 v' Ls.flatten.length (ints Ls.flatten) ∧ Below w.heap.size w w' := by
  have hopen : ∀ k, k < Ls.length → ∃ (ad : Addr) (cap : Nat) (A : Option Addr) (c : Nat), v = .slice (some ad) Ls.length cap ∧ w.cell? (ad.add k) = some (.slice A (Ls.getD k []).length c) ∧ ad.block < w.heap.size ∧ Sl w ok' (.slice A (Ls.getD k []).length c) (ints (Ls.getD k [])) := by
    intro k hk
    obtain ⟨ad, cap, hv, _, hlt, hc⟩ := hs.open_ (by omega)
    have hu : us[k]? = some (us[k]'(by omega)) := List.getElem?_eq_getElem _
    have h1 := hc k _ hu
    have h2 := hin k _ hu
    generalize us[k]'(by omega) = u at *
    obtain ⟨A, c, rfl⟩ := h2.form
    rw [ints_length] at h1 h2
    exact ⟨ad, cap, A, c, by rw [hv, hl], h1, hlt, h2⟩
  have HO := Lib.hid hopen
  obtain ⟨A0, cap0, rfl⟩ := hs.form
  rw [hl] at hopen hs HO ⊢
  clear hopen hin
  have hcap : Ls.length ≤ 9223372036854775807 := by omega
  go_enter Tryd.func11, Tryd.ntmps11
  go_wp2
  go_loop [3, 11] (fun vs vi => ∃ k : Nat, k ≤ Ls.length ∧ vi = .int .i64 k ∧ vs = .int .i64 ((Ls.take k).flatten.length : Nat)) (fun _ i => Ls.length - (intOf i).toNat)
  case atStart => exact ⟨0, by omega, rfl, by simp⟩
  case round =>
    obtain ⟨k, hk, rfl, rfl⟩ := hrel
    by_cases hlt : k < Ls.length
    · obtain ⟨ad, cap, A, c, hv, hcell, _, _⟩ := HO.out k hlt
      injection hv with hA _ hc
      subst hA; subst hc
      have hle := flatten_take_le Ls (k + 1)
      have HE : Hid ((Ls.take (k + 1)).flatten.length = (Ls.take k).flatten.length + (Ls.getD k []).length) := by
        unfold Hid; rw [flatten_take_succ _ _ hlt, List.length_append, List.getD_eq_getElem?_getD, List.getElem?_eq_getElem hlt]; rfl
      have hle2 : (Ls.take k).flatten.length + (Ls.getD k []).length ≤ 100000000 := by rw [← HE.out]; omega
      generalize (Ls.getD k []).length = q at *
      generalize (Ls.take k).flatten.length = p at *
      clear hle
      go_wp2
      go_round
      case rel => exact ⟨k + 1, by omega, by go_num, by rw [HE.out]; go_num⟩
      case measure => simp [intOf]; omega
    · obtain rfl : k = Ls.length := by omega
      rw [List.take_length]
      generalize hT : Ls.flatten.length = T at *
      have HT := Lib.hid hT
      clear hT
      go_wp2_with (go_at_call 36; refine (grow_nil _ _ (by omega)).mono ?_; rintro e w1 ⟨v1, rfl, hown1, hb1⟩)
      have HO1 := Lib.hid hown1
      have HB1 := Lib.hid hb1
      clear hown1 hb1
      go_loopw [6, 27] (fun vo vi wr => ∃ k : Nat, k ≤ Ls.length ∧ vi = .int .i64 k ∧ wr.ownsRow w.heap.size 3 1 vo ((Ls.take k).flatten.length) (ints (Ls.take k).flatten) ∧ Below w.heap.size w wr) (fun _ i _ => Ls.length - (intOf i).toNat)
      case atStart => exact ⟨0, by omega, rfl, by simpa [ints] using HO1.out, HB1.out⟩
      case round =>
        obtain ⟨k, hk, rfl, hown, hb⟩ := hrel
        by_cases hlt : k < Ls.length
        · obtain ⟨ad, cap, A, c, hv, hcell, hblk, hsl⟩ := HO.out k hlt
          injection hv with hA _ hc
          subst hA; subst hc
          have hcell2 : wr.cell? (ad.add k) = _ := (hb.cell (p := ad.add k) (by rw [add_block]; exact hblk)).trans hcell
          have hsl2 := hsl.later hb
          have HSl := Lib.hid hsl2
          have HOw := Lib.hid hown
          have HBw := Lib.hid hb
          have hle := flatten_take_le Ls (k + 1)
          have HE : Hid ((Ls.take (k + 1)).flatten = (Ls.take k).flatten ++ Ls.getD k []) := by
            unfold Hid; rw [flatten_take_succ _ _ hlt, List.getD_eq_getElem?_getD, List.getElem?_eq_getElem hlt]; rfl
          have hle2 : (Ls.take k).flatten.length + (Ls.getD k []).length ≤ 100000000 := by rw [← List.length_append, ← HE.out]; have := HT.out; omega
          clear hcell hsl hsl2 hown hb hle
          generalize Ls.getD k [] = L at *
          generalize (Ls.take k).flatten = F at *
          go_wp2_with (at_builtin; go_must (refine wpList_append_sl concat_T rfl (.tmp 31) (.tmp 32) rfl w.heap.size u6 F.length _ rfl HOw.out A L.length c (ints L) ok' rfl HSl.out (ints_one L) (by omega) (by omega) HBw.out.size ?_; intro v' w2 hown2 hg2 hk2))
          go_roundw
          case rel =>
            refine ⟨k + 1, by omega, by go_num, ?_, HBw.out.grown hg2 HBw.out.size fun g hg => (own_lt HOw.out g hg).1⟩
            rw [HE.out, ints_append, List.length_append]; exact hown2
          case measure => simp [intOf]; omega
        · obtain rfl : k = Ls.length := by omega
          rw [List.take_length] at hown
          go_wp2
          go_ret
          exact ⟨_, rfl, by rw [← HT.out]; exact hown, hb⟩
end Go.Proofs.YtefkglmdkjkbiaaDoor
