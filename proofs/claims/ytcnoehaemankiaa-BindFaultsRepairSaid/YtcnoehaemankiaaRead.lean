/- The walks of Read: gathered sections, stacked and nested. -/
import Derived.Test.YtcnoehaemankiaaAdd
import Derived.Test.YtcnoehaemankiaaConcatInts
namespace Go.Proofs.Ytcnoehaemankiaa
open Go.RowKit
/-- The parts of the gathered sections, one behind the other. -/
def gather (f : Nat → List Int) (os : List Nat) : List Int := (os.map f).flatten
theorem gather_succ (f : Nat → List Int) (os : List Nat) (k : Nat) (h : k < os.length) : gather f (os.take (k + 1)) = gather f (os.take k) ++ f (os.getD k 0) := by
  unfold gather; rw [List.take_succ_eq_append_getElem h, List.map_append, List.flatten_append, List.getD_eq_getElem?_getD, List.getElem?_eq_getElem h]; simp
theorem gather_rev (f : Nat → List Int) (os : List Nat) (k : Nat) (h : k < os.length) : gather f (os.take (k + 1)).reverse = f (os.getD k 0) ++ gather f (os.take k).reverse := by
  unfold gather; rw [List.take_succ_eq_append_getElem h, List.reverse_append, List.map_append, List.flatten_append, List.getD_eq_getElem?_getD, List.getElem?_eq_getElem h]; simp
theorem gather_le (f : Nat → List Int) (c : Nat) (hf : ∀ o, (f o).length ≤ c) : ∀ os : List Nat, (gather f os).length ≤ c * os.length
  | [] => by simp [gather]
  | o :: os => by
    have := gather_le f c hf os
    have h1 := hf o
    unfold gather at this ⊢
    rw [List.map_cons, List.flatten_cons, List.length_append, List.length_cons, Nat.mul_add]; omega
def nats (os : List Nat) : List Int := os.map fun o : Nat => (o : Int)
theorem nats_length (os : List Nat) : (nats os).length = os.length := by simp [nats]
def ReadPost (w : World) (l : List Int) (e : Ending) (w' : World) : Prop := ∃ v, e = .returned (.tuple #[v, .int .i64 0]) ∧ w'.ownsRow w.heap.size 3 1 v l.length (ints l) ∧ Below w.heap.size w w'
def sec (Ls : List (List Int)) (o : Nat) : List Int := Ls.getD o []
theorem sec_none (Ls : List (List Int)) (o : Nat) (h : Ls.length ≤ o) : sec Ls o = [] := by unfold sec; rw [List.getD_eq_getElem?_getD, List.getElem?_eq_none h]; rfl
/-- The sections as they lie in memory, each not empty, of even length and at most 64 pages. -/
structure Secs (w : World) (ad : Addr) (m : Nat) (Ls : List (List Int)) : Prop where
  len : Ls.length = m
  blk : ad.block < w.heap.size
  cell : ∀ k, k < m → ∃ (a : Addr) (c : Nat), w.cell? (ad.add k) = some (.slice (some a) (sec Ls k).length c) ∧ a.block < w.heap.size ∧ Sl w (fun _ => True) (.slice (some a) (sec Ls k).length c) (ints (sec Ls k))
  two : ∀ k, k < m → 2 ≤ (sec Ls k).length ∧ (sec Ls k).length ≤ 64 ∧ (sec Ls k).length % 2 = 0
theorem secs_of {w : World} {v : Value} {vals : List Value} {Ls : List (List Int)} (hs : Sl w (fun _ => True) v vals) (hl : vals.length = Ls.length) (hpos : 0 < Ls.length) (hall : ∀ i u, vals[i]? = some u → Sl w (fun _ => True) u (ints (sec Ls i)))
    (h2 : ∀ k, k < Ls.length → 2 ≤ (sec Ls k).length ∧ (sec Ls k).length ≤ 64 ∧ (sec Ls k).length % 2 = 0) : ∃ ad cap, v = .slice (some ad) Ls.length cap ∧ Secs w ad Ls.length Ls := by
  obtain ⟨ad, cap, hv, _, hlt, hc⟩ := hs.open_ (by omega)
  refine ⟨ad, cap, by rw [hv, hl], rfl, hlt, fun k hk => ?_, h2⟩
  have hu : vals[k]? = some (vals[k]'(by omega)) := List.getElem?_eq_getElem _
  have h1 := hc k _ hu
  have h3 := hall k _ hu
  generalize vals[k]'(by omega) = u at *
  obtain ⟨a, c, rfl, _, hb, _⟩ := h3.open_ (by rw [ints_length]; have := h2 k hk; omega)
  rw [ints_length] at h1 h3
  exact ⟨a, c, h1, hb, h3⟩
/-- The front half and the back half of a section. -/
def front (Ls : List (List Int)) (o : Nat) : List Int := (sec Ls o).take ((sec Ls o).length / 2)
def back (Ls : List (List Int)) (o : Nat) : List Int := (sec Ls o).drop ((sec Ls o).length / 2)
theorem sec_le {w : World} {ad : Addr} {m : Nat} {Ls : List (List Int)} (h : Secs w ad m Ls) (o : Nat) : (sec Ls o).length ≤ 64 := by
  rcases Nat.lt_or_ge o m with h1 | h1
  · exact (h.two o h1).2.1
  · rw [sec_none _ _ (by rw [h.len]; exact h1)]; simp
theorem front_le {w : World} {ad : Addr} {m : Nat} {Ls : List (List Int)} (h : Secs w ad m Ls) (o : Nat) : (front Ls o).length ≤ 64 := by
  unfold front; rw [List.length_take]; have := sec_le h o; omega
theorem back_le {w : World} {ad : Addr} {m : Nat} {Ls : List (List Int)} (h : Secs w ad m Ls) (o : Nat) : (back Ls o).length ≤ 64 := by
  unfold back; rw [List.length_drop]; have := sec_le h o; omega
set_option maxHeartbeats 2000000 in
theorem read_stack (ad : Addr) (cap m : Nat) (Ls : List (List Int)) (vo : Value) (os : List Nat) (w : World) (hS : Secs w ad m Ls) (hO : Sl w (fun _ => True) vo (ints (nats os))) (hm : m ≤ 64) (ho : os.length ≤ 64) (hlt : ∀ k, k < os.length → os.getD k 0 < m) :
    Calls Try.prog 11 #[.slice (some ad) m cap, vo, .int .i64 0] w (ReadPost w (gather (sec Ls) os)) := by
  obtain ⟨Ao, co, rfl⟩ := hO.form
  rw [ints_length, nats_length] at hO ⊢
  have HS := Lib.hid hS
  have HO := Lib.hid hO
  have HLT := Lib.hid hlt
  clear hS hO hlt
  go_enter Try.func11, Try.ntmps11
  go_wp2
  go_loop [25] (fun vi => ∃ k : Nat, k ≤ m ∧ vi = .int .i64 k) (fun i => m - (intOf i).toNat)
  case atStart => exact ⟨0, by omega, rfl⟩
  case round =>
    obtain ⟨k, hk, rfl⟩ := hrel
    by_cases hlt : k < m
    · obtain ⟨a, c, hcell, _, _⟩ := HS.out.cell k hlt
      obtain ⟨t1, t2, t3⟩ := HS.out.two k hlt
      generalize (sec Ls k).length = q at *
      have tq : ((q : Int) % 2 == 1) = false := by rw [beq_eq_false_iff_ne]; omega
      clear t3
      go_wp2
      go_round
      case rel => exact ⟨k + 1, by omega, by go_num⟩
      case measure => simp [intOf]; omega
    · obtain rfl : k = m := by omega
      go_wp2
      go_loopw [10, 11, 13, 14, 47] (fun vo vt _ _ vi wr => ∃ k : Nat, k ≤ os.length ∧ vi = .int .i64 k ∧ vt = .slice none 0 0 ∧ wr.ownsRow w.heap.size 3 1 vo (gather (sec Ls) (os.take k)).length (ints (gather (sec Ls) (os.take k))) ∧ Below w.heap.size w wr) (fun _ _ _ _ i _ => os.length - (intOf i).toNat)
      case atStart => exact ⟨0, by omega, rfl, rfl, ⟨by simp [gather, ints], .inl ⟨rfl, by simp [gather]⟩⟩, Below.refl _ _⟩
      case round =>
        obtain ⟨i, hi, rfl, rfl, hown, hb⟩ := hrel
        by_cases hil : i < os.length
        · obtain ⟨ad2, hA, _, hblk2, hc2⟩ := HO.out.addr (by rw [ints_length, nats_length]; omega)
          subst hA
          have hcell2 := (hb.cell (p := ad2.add i) (by rw [add_block]; exact hblk2)).trans (hc2 i _ (ints_get (by rw [nats_length]; exact hil)))
          rw [show (nats os).getD i 0 = ((os.getD i 0 : Nat) : Int) by simp [nats, List.getD_eq_getElem?_getD, List.getElem?_eq_getElem hil]] at hcell2
          have hok := HLT.out i hil
          have HG := Lib.hid (gather_succ (sec Ls) os i hil)
          have HGL := Lib.hid (gather_le (sec Ls) 64 (fun o => by
            rcases Nat.lt_or_ge o k with h | h
            · exact (HS.out.two o h).2.1
            · rw [sec_none _ _ (by rw [HS.out.len]; exact h)]; simp) (os.take i))
          generalize os.getD i 0 = o at *
          obtain ⟨a, c, hsec, hsb, hsl⟩ := HS.out.cell o hok
          obtain ⟨t1, t2, t3⟩ := HS.out.two o hok
          have hsec2 := (hb.cell (p := ad.add o) (by rw [add_block]; exact HS.out.blk)).trans hsec
          have HSl := Lib.hid (hsl.later hb)
          have HOw := Lib.hid hown
          have HB := Lib.hid hb
          generalize sec Ls o = L at *
          have hgl : (gather (sec Ls) (os.take i)).length ≤ 64 * 64 := by
            have := HGL.out; rw [List.length_take] at this; omega
          generalize gather (sec Ls) (os.take i) = G at *
          clear hsec hsl hown hb hc2 t3 HGL hblk2
          go_wp2_with (at_builtin; go_must (refine wpList_append_sl eInt rfl (.tmp 65) (.tmp 66) rfl w.heap.size u10 G.length _ rfl HOw.out (some a) L.length c (ints L) (fun _ => True) rfl HSl.out (ints_one L) (by omega) (by omega) HB.out.size ?_; intro v' w2 hown2 hg2 hk2))
          go_roundw
          case rel =>
            refine ⟨i + 1, by omega, by go_num, rfl, ?_, HB.out.grown hg2 HB.out.size fun g hg => (own_lt HOw.out g hg).1⟩
            rw [HG.out, ints_append, List.length_append]; exact hown2
          case measure => simp [intOf]; omega
        · obtain rfl : i = os.length := by omega
          rw [List.take_length] at hown
          have hgl : (gather (sec Ls) os).length ≤ 64 * 64 := by
            have := gather_le (sec Ls) 64 (fun o => by
              rcases Nat.lt_or_ge o k with h | h
              · exact (HS.out.two o h).2.1
              · rw [sec_none _ _ (by rw [HS.out.len]; exact h)]; simp) os
            omega
          generalize hG : gather (sec Ls) os = G at *
          clear hG
          have HOw := Lib.hid hown
          have HB := Lib.hid hb
          clear hown hb
          go_wp2_with (at_builtin; go_must (refine wpList_append_sl eInt rfl (.tmp 84) (.tmp 85) rfl w.heap.size u10 G.length _ rfl HOw.out none 0 0 [] (fun _ => True) rfl (Sl.nil _ _) (by simp) (by omega) (by omega) HB.out.size ?_; intro v' w2 hown2 hg2 hk2))
          go_ret2
          rw [List.append_nil] at hown2
          exact ⟨_, rfl, hown2, HB.out.grown hg2 HB.out.size fun g hg => (own_lt HOw.out g hg).1⟩
set_option maxHeartbeats 2000000 in
theorem read_nest (ad : Addr) (cap m : Nat) (Ls : List (List Int)) (vo : Value) (os : List Nat) (w : World) (hS : Secs w ad m Ls) (hO : Sl w (fun _ => True) vo (ints (nats os))) (hm : m ≤ 64) (ho : os.length ≤ 64) (hlt : ∀ k, k < os.length → os.getD k 0 < m) :
    Calls Try.prog 11 #[.slice (some ad) m cap, vo, .int .i64 1] w (ReadPost w (gather (front Ls) os ++ gather (back Ls) os.reverse)) := by
  obtain ⟨Ao, co, rfl⟩ := hO.form
  rw [ints_length, nats_length] at hO ⊢
  have HS := Lib.hid hS
  have HO := Lib.hid hO
  have HLT := Lib.hid hlt
  clear hS hO hlt
  go_enter Try.func11, Try.ntmps11
  go_wp2
  go_loop [25] (fun vi => ∃ k : Nat, k ≤ m ∧ vi = .int .i64 k) (fun i => m - (intOf i).toNat)
  case atStart => exact ⟨0, by omega, rfl⟩
  case round =>
    obtain ⟨k, hk, rfl⟩ := hrel
    by_cases hlt : k < m
    · obtain ⟨a, c, hcell, _, _⟩ := HS.out.cell k hlt
      obtain ⟨t1, t2, t3⟩ := HS.out.two k hlt
      generalize (sec Ls k).length = q at *
      have tq : ((q : Int) % 2 == 1) = false := by rw [beq_eq_false_iff_ne]; omega
      clear t3
      go_wp2
      go_round
      case rel => exact ⟨k + 1, by omega, by go_num⟩
      case measure => simp [intOf]; omega
    · obtain rfl : k = m := by omega
      go_wp2
      go_loopw [10, 11, 13, 14, 47] (fun vo vt _ _ vi wr => ∃ k : Nat, k ≤ os.length ∧ vi = .int .i64 k ∧ Sl wr (fun b => some b ≠ vo.ownBlock) vt (ints (gather (back Ls) (os.take k).reverse)) ∧ wr.ownsRow w.heap.size 3 1 vo (gather (front Ls) (os.take k)).length (ints (gather (front Ls) (os.take k))) ∧ Below w.heap.size w wr) (fun _ _ _ _ i _ => os.length - (intOf i).toNat)
      case atStart => exact ⟨0, by omega, rfl, by simpa [gather, ints] using Sl.nil w _, ⟨by simp [gather, ints], .inl ⟨rfl, by simp [gather]⟩⟩, Below.refl _ _⟩
      case round =>
        obtain ⟨i, hi, rfl, htail, hown, hb⟩ := hrel
        obtain ⟨At, ct, rfl⟩ := htail.form
        rw [ints_length] at htail ⊢
        by_cases hil : i < os.length
        · obtain ⟨ad2, hA, _, hblk2, hc2⟩ := HO.out.addr (by rw [ints_length, nats_length]; omega)
          subst hA
          have hcell2 := (hb.cell (p := ad2.add i) (by rw [add_block]; exact hblk2)).trans (hc2 i _ (ints_get (by rw [nats_length]; exact hil)))
          rw [show (nats os).getD i 0 = ((os.getD i 0 : Nat) : Int) by simp [nats, List.getD_eq_getElem?_getD, List.getElem?_eq_getElem hil]] at hcell2
          have hok := HLT.out i hil
          have HG := Lib.hid (gather_succ (front Ls) os i hil)
          have HGB := Lib.hid (gather_rev (back Ls) os i hil)
          have HGL := Lib.hid (gather_le (front Ls) 64 (fun o => front_le HS.out o) (os.take i))
          have HGT := Lib.hid (gather_le (back Ls) 64 (fun o => back_le HS.out o) (os.take i).reverse)
          generalize os.getD i 0 = o at *
          obtain ⟨a, c, hsec, hsb, hsl⟩ := HS.out.cell o hok
          obtain ⟨t1, t2, t3⟩ := HS.out.two o hok
          have hsec2 := (hb.cell (p := ad.add o) (by rw [add_block]; exact HS.out.blk)).trans hsec
          have hgl : (gather (front Ls) (os.take i)).length ≤ 64 * 64 := by
            have := HGL.out; rw [List.length_take] at this; omega
          have hgt : (gather (back Ls) (os.take i).reverse).length ≤ 64 * 64 := by
            have := HGT.out; rw [List.length_reverse, List.length_take] at this; omega
          have HF : Hid (front Ls o = (sec Ls o).take ((sec Ls o).length / 2)) := rfl
          have HK : Hid (back Ls o = (sec Ls o).drop ((sec Ls o).length / 2)) := rfl
          generalize front Ls o = LF at *
          generalize back Ls o = LB at *
          generalize sec Ls o = L at *
          obtain ⟨hL, hcap, _⟩ := hsl.cap_le
          generalize hq : L.length / 2 = h at *
          have hq2 : ((L.length : Nat) : Int) / 2 = (h : Int) := by omega
          have hqn : L.length = h + h := by omega
          have hch : ¬ c = h := by omega
          have HSl := Lib.hid ((hsl.mono (ok' := fun b => b < w.heap.size) fun b hlt _ => hlt).later hb)
          have HOw := Lib.hid hown
          have HB := Lib.hid hb
          have HT := Lib.hid htail
          generalize gather (front Ls) (os.take i) = G at *
          generalize gather (back Ls) (os.take i).reverse = GT at *
          have HQN := Lib.hid hqn
          clear hsec hsl hown hb hc2 t3 HGL HGT hblk2 htail hqn hq
          have HSF : Hid (Sl wr (fun b => b < w.heap.size) (.slice (some a) h c) (ints LF)) := by
            have := HSl.out.take_ (k := h) (by omega)
            unfold Hid; rw [HF.out]; simpa [ints, List.map_take] using this
          have hlf : LF.length = h := by rw [HF.out, List.length_take]; omega
          have HLF := Lib.hid hlf
          clear hlf
          go_wp2_with (at_builtin; go_must (refine wpList_append_sl eInt rfl (.tmp 68) (.tmp 73) rfl w.heap.size u10 G.length _ rfl HOw.out (some a) h c (ints LF) _ rfl HSF.out (ints_one LF) (by omega) (by omega) HB.out.size ?_; intro v2 w2 hown2 hg2 hk2))
          have hsb : Hid (Sl w2 (fun _ => True) (.slice (some (a.add h)) (L.length - h) (c - h)) (ints LB)) := by
            have h1 := (HSl.out.drop_ (k := h) (by omega)).grown hg2 (fun b hlt e => by have := (own_lt HOw.out b e.symm).1; omega)
            unfold Hid; rw [HK.out]
            simpa [ints, List.map_drop] using h1.mono (ok' := fun _ => True) fun _ _ _ => trivial
          have hst : Hid (Sl w2 (fun _ => True) (.slice At GT.length ct) (ints GT)) := (HT.out.grown hg2 fun b h => h).mono fun _ _ _ => trivial
          have hbw : Hid (Below w.heap.size w w2) := HB.out.grown hg2 HB.out.size fun g hg => (own_lt HOw.out g hg).1
          have hlb : Hid (LB.length ≤ 64) := by unfold Hid; rw [HK.out, List.length_drop]; have := HQN.out; omega
          have HO2 := Lib.hid hown2
          clear hown2 hg2 hk2
          refine (concat_ints _ [.slice (some (a.add h)) (L.length - h) (c - h), .slice At GT.length ct] [LB, GT] _ (fun b => b = w2.heap.size) (fun _ => True) (new_sl w2 31 _ (by simp [maxLen])) rfl ?_ ?_ (by simp)).mono ?_
          · intro j u hu
            rcases j with _ | _ | j
            · simp at hu; subst hu; exact hsb.out.alloc _
            · simp at hu; subst hu; exact hst.out.alloc _
            · simp at hu
          · have := hlb.out; simp; omega
          rintro e w3 ⟨v3, rfl, hown3, hb3⟩
          have hw : [LB, GT].flatten = LB ++ GT := by simp
          rw [hw] at hown3
          have HO3 := Lib.hid hown3
          have HB3 := Lib.hid hb3
          clear hown3 hb3 hw
          go_wp2
          go_roundw
          case rel =>
            refine ⟨i + 1, by omega, by go_num, ?_, ?_, ?_⟩
            · rw [HGB.out]
              refine (Sl.of_own HO3.out).mono fun b _ ⟨_, hge⟩ e => ?_
              have := (own_lt HO2.out b e.symm).2
              simp at hge; omega
            · rw [HG.out, ints_append, List.length_append, HLF.out]
              exact own_below (HO2.out.alloc _) HB3.out
            · exact (hbw.out.alloc hbw.out.size _).trans (HB3.out.mono (le_alloc hbw.out.size _))
          case measure => simp [intOf]; omega
        · obtain rfl : i = os.length := by omega
          rw [List.take_length] at hown htail
          have hgl : (gather (front Ls) os).length ≤ 64 * 64 := by
            have := gather_le (front Ls) 64 (fun o => front_le HS.out o) os
            omega
          have hgt : (gather (back Ls) os.reverse).length ≤ 64 * 64 := by
            have := gather_le (back Ls) 64 (fun o => back_le HS.out o) os.reverse
            rw [List.length_reverse] at this; omega
          generalize gather (front Ls) os = G at *
          rw [List.take_length]
          generalize gather (back Ls) os.reverse = GT at *
          have HOw := Lib.hid hown
          have HB := Lib.hid hb
          have HT := Lib.hid htail
          clear hown hb htail
          go_wp2_with (at_builtin; go_must (refine wpList_append_sl eInt rfl (.tmp 84) (.tmp 85) rfl w.heap.size u10 G.length _ rfl HOw.out At GT.length ct (ints GT) _ rfl HT.out (ints_one GT) (by omega) (by omega) HB.out.size ?_; intro v' w2 hown2 hg2 hk2))
          go_ret2
          rw [← ints_append] at hown2
          exact ⟨_, rfl, by rw [List.length_append]; exact hown2, HB.out.grown hg2 HB.out.size fun g hg => (own_lt HOw.out g hg).1⟩
end Go.Proofs.Ytcnoehaemankiaa
