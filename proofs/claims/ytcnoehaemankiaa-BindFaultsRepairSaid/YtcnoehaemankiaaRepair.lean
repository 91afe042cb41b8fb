/- The walk of BindFaultsRepair. -/
import Derived.Test.YtcnoehaemankiaaRepairLaw
import Derived.Test.YtcnoehaemankiaaSortOwn
import Derived.Test.YtcnoehaemankiaaSectionsLaw
import Derived.Deep.RegionLaw
import Derived.Deep.DeepMust
namespace Go.Proofs.Ytcnoehaemankiaa
open Go.RowKit
theorem below_undrew {B : Nat} {w w' : World} (h : Below B w.drew w') : Below B w w' := ⟨h.os, h.tape, h.output, h.size, h.block⟩
def RPost (w : World) (e : Ending) (w' : World) : Prop := e = .returned (.bool true) ∧ Below w.heap.size w w'
set_option maxHeartbeats 4000000 in
set_option maxRecDepth 100000 in
theorem repair_any (v : Value) (o : List Int) (m : Int) (w : World) (ok : Nat → Prop) (h : Sl w ok v (ints o)) :
    Calls Try.prog 6 #[v, .int .i64 m] w (RPost w) := by
  obtain ⟨A, cap, rfl⟩ := h.form
  obtain ⟨_, hcap, hcm⟩ := h.cap_le
  rw [ints_length] at h hcap ⊢
  have HS := Lib.hid h
  have hm : o.length ≤ 9223372036854775807 := by unfold maxLen at hcm; omega
  have hb0 := (Below.refl w.heap.size w).alloc (Nat.le_refl _) (Obj.cells #[Value.int IntKind.i64 0, Value.int IntKind.i64 0, Value.int IntKind.i64 2] 3)
  have HF := Lib.hid (faults_any _ [0, 0, 2] 3 _ _ (new_sl w 3 (ints [0, 0, 2]) (by simp [maxLen, ints])))
  have HF2 : Hid (∀ w2, Below w.heap.size w w2 → Calls Try.prog 12 #[.slice A o.length cap, .int .i64 m] w2 (FaultsPost o m w2)) := fun w2 hb => by
    have := faults_any _ o m w2 _ (h.later hb)
    exact this
  have HB0 := Lib.hid hb0
  have HPost : Hid (∀ w', Below w.heap.size w w' → RPost w (.returned (.bool true)) w') := fun w' h => ⟨rfl, h⟩
  generalize RPost w = Post at *
  clear hb0 hcm h
  go_enter Try.func6, Try.ntmps6
  go_wp2_with fail
  refine HF.out.mono ?_; rintro e w1 (⟨h1, _⟩ | ⟨_, K, vm, ve, vv, mw, hKI, rfl, hs1, hs2, hs3, hb1⟩)
  · exact absurd start2_ok h1
  · obtain ⟨ee, em⟩ := start2 hKI
    rw [ee] at hs2
    rw [show (3 : Int).toNat = 3 from rfl, em] at hs1
    obtain ⟨Av, cv, rfl⟩ := hs3.form
    obtain ⟨Ae, ce, rfl⟩ := hs2.form
    obtain ⟨Am, cm, rfl⟩ := hs1.form
    rw [ints_length, ints_length]
    generalize (movedTo [0, 0, 2] K ([0, 0, 2] : List Int).length).length = l1 at *
    have HB1 := Lib.hid (HB0.out.trans (hb1.mono HB0.out.size))
    have HE1 : Hid (∀ w2, Below w1.heap.size w1 w2 → Sl w2 (fun _ => True) (.slice Ae [(1 : Int)].length ce) (ints [1]) ∧ Sl w2 (fun _ => True) (.slice Am [(1 : Int)].length cm) (ints [1])) := fun w2 hb => by
      rw [ints_length] at hs2 hs1
      exact ⟨hs2.later hb, hs1.later hb⟩
    have HEq : Hid (∀ w2 g v1, Sl w2 (fun _ => True) v1 (ints [1]) → g = w2.heap.size → Calls Try.prog 14 #[v1, .slice (some ⟨g, 0, none⟩) 1 1] (w2.alloc (Obj.cells #[Value.int IntKind.i64 1] 3)) fun e w' => e = .returned (.bool true) ∧ Same (w2.alloc (Obj.cells #[Value.int IntKind.i64 1] 3)) w') := fun w2 g v1 h1 hg => by
      subst hg
      exact equal_ints _ _ [1] [1] _ _ _ (h1.alloc _) (new_sl w2 3 (ints [1]) (by simp [maxLen, ints]))
    clear hb1 hs1 hs2 hs3 hKI ee em HF
    go_wp2_with fail
    have hbs1 := (Below.refl w1.heap.size w1).alloc (Nat.le_refl _) (Obj.cells #[Value.slice Am 1 cm, Value.slice Ae 1 ce, Value.slice Av l1 cv] 36)
    refine (HEq.out _ _ _ (HE1.out _ hbs1).1 (by simp)).mono ?_; rintro e w2 ⟨rfl, hs2⟩
    have hBk := Blk.new w1 36 #[Value.slice Am 1 cm, Value.slice Ae 1 ce, Value.slice Av l1 cv]
    have hb2 : Below w1.heap.size w1 w2 := (hbs1.alloc (by simp) _).trans (hs2.below _)
    have hbk2 : Blk w2 w1.heap.size 36 #[Value.slice Am 1 cm, Value.slice Ae 1 ce, Value.slice Av l1 cv] := by
      obtain ⟨q, rfl⟩ := hs2
      exact hBk.alloc _
    have r0 := hbk2.cell 0
    have r1 := hbk2.lt
    simp only [List.getElem?_toArray, List.getElem?_cons_zero] at r0
    have HB2 := Lib.hid hb2
    clear hbs1 hBk hb2 hbk2 hs2
    go_wp2_with fail
    refine (HEq.out _ _ _ (HE1.out _ HB2.out).2 rfl).mono ?_; rintro e w3 ⟨rfl, hs3⟩
    have HB3 := Lib.hid (((HB1.out.trans (HB2.out.mono HB1.out.size)).alloc (HB1.out.trans (HB2.out.mono HB1.out.size)).size _).trans (hs3.below _))
    clear r0 r1 hs3 HB1 HB2 HE1 HEq
    go_wp2_with fail
    refine (HF2.out _ HB3.out).mono ?_; rintro e w4 (⟨_, z, hz, rfl, hb4⟩ | ⟨hok, K2, vm, ve, vv, mw2, hKI, rfl, hs1, hs2, hs3, hb4⟩)
    · have HB4 := Lib.hid (HB3.out.trans (hb4.mono HB3.out.size))
      have hz' : (z != 0) = true := by simpa using hz
      clear hb4
      go_wp2
      all_goals exact HPost.out _ (HB4.out.alloc HB4.out.size _)
    · obtain ⟨mm, rfl⟩ := Int.eq_ofNat_of_zero_le (show 0 ≤ m by have := hok.n1; omega)
      rw [Int.toNat_natCast] at hs1
      have HB4 := Lib.hid (HB3.out.trans (hb4.mono HB3.out.size))
      have HOk := Lib.hid hok
      have HKI := Lib.hid hKI
      have hm1 := hok.n1
      have hm2 := hok.n2
      have hn64 := hok.len
      obtain ⟨Av2, cv2, rfl⟩ := hs3.form
      obtain ⟨Ae2, ce2, rfl⟩ := hs2.form
      obtain ⟨Am2, cm2, rfl⟩ := hs1.form
      have hml := missTo_len o mm
      have hel := extraTo_len o K2 o.length
      have hvl := movedTo_len o K2 o.length
      have HKi : Hid (∀ i, i < o.length → (i ∈ K2 ↔ ¬ ((i : Int) ∈ extraTo o K2 o.length) ∧ ¬ ((i : Int) ∈ movedTo o K2 o.length))) := fun i hi => kept_iff hi
      have HMv : Hid (∀ t, t < (movedTo o K2 o.length).length → ∃ p : Nat, at_ (movedTo o K2 o.length) t = (p : Int) ∧ p < o.length) := fun t ht => moved_at ht
      have HAll : Hid (∀ acc, Acc o (restTo o K2 o.length ++ missTo o mm) (movedTo o K2 o.length) (movedTo o K2 o.length).length acc → (acc.mergeSort fun x y => decide (x ≤ y)) = (List.range mm).map Int.ofNat) := fun acc h => all_once hok hKI h
      have HBs : Hid (restTo o K2 o.length ++ missTo o mm).Nodup := base_nodup hKI
      rw [ints_length] at hs1 hs2 hs3
      rw [ints_length, ints_length, ints_length]
      have HSm := Lib.hid hs1
      have HSe := Lib.hid hs2
      have HSv := Lib.hid hs3
      have hRs : Hid (∀ i a, a + 1 < (restTo o K2 i).length → at_ (restTo o K2 i) a < at_ (restTo o K2 i) (a + 1)) := fun i a h => rest_step hKI.keep i a h
      clear hok hs1 hs2 hs3 hb4 HF2 hKI HOk
      generalize extraTo o K2 o.length = xe at *
      generalize movedTo o K2 o.length = xv at *
      generalize missTo o mm = xm at *
      generalize hnn : o.length = n at *
      have HN := Lib.hid hnn
      obtain ⟨w6, hw6⟩ : ∃ w6, w6 = w4.alloc (Obj.cells #[Value.slice Am2 xm.length cm2, Value.slice Ae2 xe.length ce2, Value.slice Av2 xv.length cv2] 36) := ⟨_, rfl⟩
      have hBlk : Blk w6 w4.heap.size 36 #[Value.slice Am2 xm.length cm2, Value.slice Ae2 xe.length ce2, Value.slice Av2 xv.length cv2] := by rw [hw6]; exact Blk.new _ _ _
      have HSm6 : Hid (Sl w6 (fun _ => True) (.slice Am2 xm.length cm2) (ints xm)) := by rw [hw6]; exact HSm.out.alloc _
      have HSe6 : Hid (Sl w6 (fun _ => True) (.slice Ae2 xe.length ce2) (ints xe)) := by rw [hw6]; exact HSe.out.alloc _
      have HSv6 : Hid (Sl w6 (fun _ => True) (.slice Av2 xv.length cv2) (ints xv)) := by rw [hw6]; exact HSv.out.alloc _
      have HB6 : Hid (Below w.heap.size w w6) := by rw [hw6]; exact HB4.out.alloc HB4.out.size _
      have HSo : Hid (Sl w6 (fun _ => True) (.slice A n cap) (ints o)) := (HS.out.later HB6.out).mono fun _ _ _ => trivial
      have HW6 := Lib.hid hw6
      have HBk := Lib.hid hBlk
      clear hnn hw6 hBlk HSm HSe HSv HB4 HS HB0 HB3
      go_wp2
      rw [← HW6.out]
      generalize w4.heap.size = g at *
      go_loopw [9, 62] (fun vo vi wr => ∃ i : Nat, i ≤ n ∧ vi = .int .i64 i ∧ wr.ownsRow w6.heap.size 3 1 vo (restTo o K2 i).length (ints (restTo o K2 i)) ∧ Below w6.heap.size w6 wr) (fun _ i _ => n - (intOf i).toNat)
      case atStart => exact ⟨0, by omega, rfl, ⟨rfl, .inl ⟨rfl, rfl⟩⟩, Below.refl _ _⟩
      case round =>
        obtain ⟨i, hi, rfl, hown, hb⟩ := hrel
        have HO := Lib.hid hown
        have HB := Lib.hid hb
        by_cases hin : i < n
        · obtain ⟨bo, oo, hA, hbo, hco⟩ := (HSo.out.later hb).plainA (by rw [ints_length, HN.out]; omega)
          subst hA
          have d1 := hco i _ (ints_get (by rw [HN.out]; exact hin))
          have HX : Hid (at_ o i = o.getD i 0) := rfl
          rw [← HX.out] at d1
          have hbk := HBk.out.below hb HBk.out.lt
          have r1 := hbk.cell 1
          have r2 := hbk.cell 2
          have r3 := hbk.lt
          simp only [List.getElem?_toArray, List.getElem?_cons_zero, List.getElem?_cons_succ] at r1 r2
          have HCe := Lib.hid (contains_ints _ xe (i : Int) wr _ (HSe6.out.later hb))
          have HCv := Lib.hid (contains_ints _ xv (i : Int) wr _ (HSv6.out.later hb))
          have HKii := Lib.hid (HKi.out i hin)
          have hrl := restTo_len o K2 i
          have HY := Lib.hid (fun h => restTo_yes o K2 i h)
          have HNo := Lib.hid (fun h => restTo_no o K2 i h)
          obtain ⟨Ar, cr, rfl⟩ := own_form hown
          clear hown hb hco hbk
          generalize at_ o i = x at *
          by_cases he : (i : Int) ∈ xe
          · have hd : decide ((i : Int) ∈ xe) = true := by simpa using he
            rw [hd] at HCe
            have HR := Lib.hid (HNo.out (fun h => (HKii.out.1 h).1 he))
            clear hd he
            go_wp2_with (go_at_call 15; refine HCe.out.mono ?_; rintro e w' ⟨rfl, rfl⟩)
            go_roundw
            case rel => exact ⟨i + 1, by omega, by go_num, by rw [HR.out]; exact HO.out, HB.out⟩
            case measure => simp [intOf]; omega
          · have hd : decide ((i : Int) ∈ xe) = false := by simpa using he
            rw [hd] at HCe
            clear hd
            by_cases hv : (i : Int) ∈ xv
            · have hd : decide ((i : Int) ∈ xv) = true := by simpa using hv
              rw [hd] at HCv
              have HR := Lib.hid (HNo.out (fun h => (HKii.out.1 h).2 hv))
              clear hd he hv
              go_wp2_with (go_at_call 15; first | ((with_reducible refine HCe.out.mono ?_); rintro e w' ⟨rfl, rfl⟩) | ((with_reducible refine HCv.out.mono ?_); rintro e w' ⟨rfl, rfl⟩))
              go_roundw
              case rel => exact ⟨i + 1, by omega, by go_num, by rw [HR.out]; exact HO.out, HB.out⟩
              case measure => simp [intOf]; omega
            · have hd : decide ((i : Int) ∈ xv) = false := by simpa using hv
              rw [hd] at HCv
              have HR := Lib.hid (HY.out (HKii.out.2 ⟨he, hv⟩))
              clear hd he hv
              generalize restTo o K2 i = L at *
              go_wp2_with (first | (go_at_call 15; first | ((with_reducible refine HCe.out.mono ?_); rintro e w' ⟨rfl, rfl⟩) | ((with_reducible refine HCv.out.mono ?_); rintro e w' ⟨rfl, rfl⟩)) | (at_builtin; refine wpList_push eInt rfl (.tmp 79) (.tmp 81) rfl w6.heap.size (.slice Ar L.length cr) L.length _ rfl (HO.out.alloc _) ⟨wr.heap.size, 0, none⟩ 1 (.int .i64 x) rfl (new_one _ _ _) rfl (by omega) (by omega) (le_alloc HB.out.size _) ?_; intro v4 w9 hown4 hg4 hk4))
              go_roundw
              case rel => exact ⟨i + 1, by omega, by go_num, by rw [HR.out, List.length_append, ints_append]; exact hown4, (HB.out.alloc HB.out.size _).grown hg4 (le_alloc HB.out.size _) fun k hk => (own_lt HO.out k hk).1⟩
              case measure => simp [intOf]; omega
        · obtain rfl : i = n := by omega
          obtain ⟨w7, rfl⟩ : ∃ w7 : World, w7 = wr := ⟨_, rfl⟩
          have hRs1 := Lib.hid (hRs.out i)
          have hrl := restTo_len o K2 i
          have HBk7 := Lib.hid (HBk.out.below hb HBk.out.lt)
          have HSm7 := Lib.hid (HSm6.out.later hb)
          have HSv7 := Lib.hid (HSv6.out.later hb)
          have HSo7 := Lib.hid (HSo.out.later hb)
          have HB7 := Lib.hid (HB6.out.trans (hb.mono HB6.out.size))
          obtain ⟨Ar, cr, rfl⟩ := own_form hown
          have HSr := Lib.hid (Sl.of_own hown)
          clear hown hb hRs HSm6 HSe6 HSv6 HSo HBk HKi HB6 HW6 HO HB
          generalize restTo o K2 i = L at *
          go_wp2
          go_loop [86] (fun vi => ∃ a : Nat, a ≤ L.length ∧ vi = .int .i64 a) (fun i => L.length - (intOf i).toNat)
          case atStart => exact ⟨0, by omega, rfl⟩
          case round =>
            obtain ⟨a, ha, rfl⟩ := hrel
            by_cases hal : a < L.length
            · obtain ⟨bl, ol, hA, hbl, hcl⟩ := HSr.out.plainA (by rw [ints_length]; omega)
              subst hA
              have d1 := hcl a _ (ints_get hal)
              have HX : Hid (at_ L a = L.getD a 0) := rfl
              rw [← HX.out] at d1
              by_cases ha0 : a = 0
              · subst ha0
                rw [Nat.add_zero] at d1
                clear hcl
                generalize at_ L 0 = x at *
                go_wp2
                go_round
                case rel => exact ⟨1, by omega, rfl⟩
                case measure => simp [intOf]; omega
              · obtain ⟨p, rfl⟩ : ∃ p, a = p + 1 := ⟨a - 1, by omega⟩
                have d2 := hcl p _ (ints_get (by omega))
                have HX2 : Hid (at_ L p = L.getD p 0) := rfl
                rw [← HX2.out] at d2
                have hst := hRs1.out p hal
                clear hcl
                generalize at_ L (p + 1) = x at *
                generalize at_ L p = y at *
                have hlL : L.length ≤ 64 := by omega
                go_wp2
                go_round
                case rel => exact ⟨p + 1 + 1, by omega, by go_num⟩
                case measure => simp [intOf]; omega
            · obtain rfl : a = L.length := by omega
              have HCl := Lib.hid (clone_own _ L w7.drew _ HSr.out.drew (by omega))
              have k0 := HBk7.out.cell 0
              have k1 := HBk7.out.lt
              simp only [List.getElem?_toArray, List.getElem?_cons_zero] at k0
              clear ha hal
              go_wp2
              go_region_law (first
                | (refine step_append_sl eInt rfl (.tmp 104) (.tmp 106) rfl w7.heap.size (.slice A8 L.length c8) L.length _ rfl HO8.out Am2 xm.length cm2 (ints xm) _ rfl HSm8.out (ints_one xm) (by omega) (by omega) HB8.out.size ?_; intro v9 w9 hown9 hg9 hk9; have HO9 := Lib.hid hown9; have HG9 := Lib.hid hg9; clear hown9 hg9 hk9)
                | (go_simp; go_at_call 16; refine HCl.out.mono ?_; rintro e w8 ⟨v8, rfl, hown8, hb8⟩; have HO8 := Lib.hid hown8; have HB8 := Lib.hid (below_undrew hb8); have k2 := (HBk7.out.below HB8.out HBk7.out.lt).cell 0; have k3 := (HBk7.out.below HB8.out HBk7.out.lt).lt; simp only [List.getElem?_toArray, List.getElem?_cons_zero] at k2; have HSm8 := Lib.hid (HSm7.out.later HB8.out); obtain ⟨A8, c8, hv8⟩ := own_form hown8; subst hv8; clear hown8 hb8))
              all_goals
                have hB9 := HB8.out.grown HG9.out HB8.out.size (fun k hk => (own_lt HO8.out k hk).1)
                have HB9 := Lib.hid hB9
                have hown9 := HO9.out
                rw [← ints_append, ← List.length_append] at hown9
                have HAc := Lib.hid (Acc.start (o := o) (mv := xv) HBs.out)
                have hbk9 := HBk7.out.below hB9 HBk7.out.lt
                have k4 := hbk9.cell 2
                have k5 := hbk9.lt
                simp only [List.getElem?_toArray, List.getElem?_cons_zero, List.getElem?_cons_succ] at k4
                have hbl : (L ++ xm).length ≤ 128 := by rw [List.length_append]; omega
                obtain ⟨A9, c9, rfl⟩ := own_form hown9
                have HO9' := Lib.hid hown9
                clear hown9 hbk9 hB9 k0 k1 k2 k3 HO9 HG9 HCl HO8 HB8 HSm8 HSr hRs1
                generalize L ++ xm = base at *
                go_wp2
                go_loopw [14, 111] (fun vo vi wr => ∃ (t : Nat) (acc : List Int), t ≤ xv.length ∧ vi = .int .i64 t ∧ Acc o base xv t acc ∧ wr.ownsRow w7.heap.size 3 1 vo acc.length (ints acc) ∧ Below w7.heap.size w7 wr) (fun _ i _ => xv.length - (intOf i).toNat)
                case atStart => exact ⟨0, base, by omega, rfl, HAc.out, HO9'.out, HB9.out⟩
                case round =>
                  obtain ⟨t, acc, ht, rfl, hacc, hown, hb⟩ := hrel
                  have HO := Lib.hid hown
                  have HB := Lib.hid hb
                  have HAcc := Lib.hid hacc
                  have hal := hacc.len
                  by_cases htl : t < xv.length
                  · obtain ⟨bv, ov, hA, hbv, hcv⟩ := (HSv7.out.later hb).plainA (by rw [ints_length]; omega)
                    subst hA
                    obtain ⟨p, hp, hpl⟩ := HMv.out t htl
                    have d1 := hcv t _ (ints_get htl)
                    have HX : Hid (at_ xv t = xv.getD t 0) := rfl
                    rw [← HX.out, hp] at d1
                    obtain ⟨bo, oo, hA, hbo, hco⟩ := (HSo7.out.later hb).plainA (by rw [ints_length, HN.out]; omega)
                    subst hA
                    have d2 := hco p _ (ints_get (by rw [HN.out]; exact hpl))
                    have HX2 : Hid (at_ o p = o.getD p 0) := rfl
                    rw [← HX2.out] at d2
                    have HC := Lib.hid (contains_ints _ acc (at_ o p) wr _ (Sl.of_own hown))
                    have HSk := Lib.hid (hacc.skip)
                    have HAd := Lib.hid (hacc.add)
                    rw [hp, Int.toNat_natCast] at HSk HAd
                    obtain ⟨Aa, ca, rfl⟩ := own_form hown
                    clear hown hb hacc hp hcv hco
                    generalize at_ o p = x at *
                    by_cases hx : x ∈ acc
                    · have hd : decide (x ∈ acc) = true := by simpa using hx
                      rw [hd] at HC
                      have HR := Lib.hid (HSk.out hx)
                      clear hd hx
                      go_wp2_with (go_at_call 15; (with_reducible refine HC.out.mono ?_); rintro e w' ⟨rfl, rfl⟩)
                      go_roundw
                      case rel => exact ⟨t + 1, acc, by omega, by go_num, HR.out, HO.out, HB.out⟩
                      case measure => simp [intOf]; omega
                    · have hd : decide (x ∈ acc) = false := by simpa using hx
                      rw [hd] at HC
                      have HR := Lib.hid (HAd.out hx)
                      clear hd hx
                      go_wp2_with (first | (go_at_call 15; (with_reducible refine HC.out.mono ?_); rintro e w' ⟨rfl, rfl⟩) | (at_builtin; refine wpList_push eInt rfl (.tmp 122) (.tmp 127) rfl w7.heap.size (.slice Aa acc.length ca) acc.length _ rfl (HO.out.alloc _) ⟨wr.heap.size, 0, none⟩ 1 (.int .i64 x) rfl (new_one _ _ _) rfl (by omega) (by omega) (le_alloc HB.out.size _) ?_; intro v4 w10 hown4 hg4 hk4))
                      go_roundw
                      case rel => exact ⟨t + 1, acc ++ [x], by omega, by go_num, HR.out, by rw [List.length_append, ints_append]; exact hown4, (HB.out.alloc HB.out.size _).grown hg4 (le_alloc HB.out.size _) fun k hk => (own_lt HO.out k hk).1⟩
                      case measure => simp [intOf]; omega
                  · obtain rfl : t = xv.length := by omega
                    have hS := HAll.out acc hacc
                    have hlen : acc.length = mm := by
                      have := congrArg List.length hS
                      rw [List.length_mergeSort] at this; simpa using this
                    have HSt := Lib.hid (sort_own w7.heap.size _ acc acc.length wr hown (by omega) (by omega))
                    rw [hS, hlen] at HSt
                    rw [hlen] at hown
                    obtain ⟨Aa, ca, rfl⟩ := own_form hown
                    have HOr := Lib.hid hown
                    clear hown hb hacc hal hS hlen HAcc HO
                    go_wp2_with (go_at_call 17; refine HSt.out.mono ?_; rintro e w10 ⟨rfl, hown10, hg10⟩; have HO10 := Lib.hid hown10; have HG10 := Lib.hid hg10; clear hown10 hg10)
                    have HB10 := Lib.hid (HB7.out.trans ((HB.out.grown HG10.out HB.out.size (fun k hk => (own_lt HOr.out k hk).1)).mono HB7.out.size))
                    have HSl := Lib.hid (Sl.of_own HO10.out)
                    clear HO10 HG10 HSt
                    go_loop [138] (fun vi => ∃ a : Nat, a ≤ mm ∧ vi = .int .i64 a) (fun i => mm - (intOf i).toNat)
                    case atStart => exact ⟨0, by omega, rfl⟩
                    case round =>
                      obtain ⟨a, ha, rfl⟩ := hrel
                      by_cases hal : a < mm
                      · obtain ⟨bl, ol, hA, hbl, hcl⟩ := HSl.out.plainA (by simp [ints]; omega)
                        subst hA
                        have d1 := hcl a (.int .i64 (a : Int)) (by simp [ints, hal])
                        clear hcl
                        go_wp2
                        go_round
                        case rel => exact ⟨a + 1, by omega, by go_num⟩
                        case measure => simp [intOf]; omega
                      · obtain rfl : a = mm := by omega
                        go_wp2
                        exact HPost.out _ HB10.out
end Go.Proofs.Ytcnoehaemankiaa
