/- The walks of low and judged: whether a rule is judged. -/
import Derived.Test.YtonmpealebggoaaGreatDoorPrpJdg
namespace Go.Proofs.YtonmpealebggoaaGreatDoor
open Go.RowKit Pr
set_option maxRecDepth 100000 in
set_option maxHeartbeats 4000000 in
theorem low_any (nm : ByteArray) (k : Int) (w : World) :
    Calls Tryz.prog 22 #[.string nm, .int .i64 k] w fun e w' => ∃ g, e = .returned (.agg #[.string ⟨#[97]⟩, .int .i64 0, .slice (some ⟨g, 0, none⟩) 1 1, .int .i64 1, .int .i64 k, .slice none 0 0]) ∧ Blk w' g 80 #[.int .i64 1, .string nm] ∧ Below w.heap.size w w' := by
  go_enter Tryz.func22, Tryz.ntmps22
  go_wp2_with fail
  have hb1 := (Blk.new w 27 #[.string ⟨#[97]⟩, .int .i64 0, .slice (some ⟨w.heap.size + 1, 0, none⟩) 1 1, .int .i64 1, .int .i64 k, .slice none 0 0]).alloc (.cells #[.int .i64 1, .string nm] 80)
  have hb2 := Blk.new (w.alloc (.cells #[.string ⟨#[97]⟩, .int .i64 0, .slice (some ⟨w.heap.size + 1, 0, none⟩) 1 1, .int .i64 1, .int .i64 k, .slice none 0 0] 27)) 80 #[.int .i64 1, .string nm]
  have hbx := ((Below.refl w.heap.size w).alloc (Nat.le_refl _) (.cells #[.string ⟨#[97]⟩, .int .i64 0, .slice (some ⟨w.heap.size + 1, 0, none⟩) 1 1, .int .i64 1, .int .i64 k, .slice none 0 0] 27)).alloc (by simp) (.cells #[.int .i64 1, .string nm] 80)
  rw [show (w.alloc (.cells #[.string ⟨#[97]⟩, .int .i64 0, .slice (some ⟨w.heap.size + 1, 0, none⟩) 1 1, .int .i64 1, .int .i64 k, .slice none 0 0] 27)).heap.size = w.heap.size + 1 by simp] at hb2
  obtain ⟨x0, x1, x2, x3, x4, x5⟩ := b6_cells hb1
  refine bodyPost_ret (v := .agg #[.string ⟨#[97]⟩, .int .i64 0, .slice (some ⟨w.heap.size + 1, 0, none⟩) 1 1, .int .i64 1, .int .i64 k, .slice none 0 0]) (by simp [results, Tryz.results22, go_sem, x0, x1, x2, x3, x4, x5]) rfl ?_
  exact ⟨_, rfl, hb2, hbx⟩
def jdRl : Rl := ([97], .mk 0 [(1, [98])] 1 2 [])
def jdFs : List Ft := [([98], 3), ([99], 0)]
theorem jd_check : checkE [jdRl] = 0 := by decide +kernel
theorem jd_facts : factsE jdFs = 0 := by decide +kernel
theorem jd_truth : truthF 12 jdFs jdRl.2 = 0 := by decide +kernel
theorem jd_bec : becF 12 jdRl.2 [] jdFs = [([98], 3)] := by decide +kernel
set_option maxRecDepth 100000 in
set_option maxHeartbeats 8000000 in
theorem judged_any (w : World) (hT : Tabs w) :
    Calls Tryz.prog 8 #[] w fun e w' => e = .returned (.bool true) ∧ Below w.heap.size w w' := by
  have HT := Lib.hid hT
  clear hT
  go_enter Tryz.func8, Tryz.ntmps8
  go_wp2_with fail
  refine (low_any _ _ _).mono ?_
  rintro e w2 ⟨g, rfl, hg, hb2⟩
  have hb2' := hb2
  have hJ : Hid (∀ b0 fA W, Below w2.heap.size w2 W → Blk W b0 27 #[.string ⟨#[97]⟩, .int .i64 0, .slice (some ⟨g, 0, none⟩) 1 1, .int .i64 1, .int .i64 2, .slice none 0 0] → Blk W fA 30 #[.string ⟨#[98]⟩, .int .i64 3, .string ⟨#[99]⟩, .int .i64 0] →
      Calls Tryz.prog 21 #[.slice (some ⟨b0, 0, none⟩) 1 1, .slice (some ⟨fA, 0, none⟩) 2 2] W fun e w' => Below W.heap.size W w' ∧ ∃ (q cap : Nat) (bs : Value), e = .returned (.tuple #[.slice (some ⟨q, 0, none⟩) 1 cap, .int .i64 0]) ∧ q < w'.heap.size ∧ 1 ≤ cap ∧ cap ≤ maxLen ∧ w'.cell? ⟨q, 0, none⟩ = some (.string ⟨#[97]⟩) ∧ w'.cell? ⟨q, 1, none⟩ = some (.bool false) ∧ w'.cell? ⟨q, 2, none⟩ = some bs ∧ SlM w' (fun _ => True) bs 1 [.string ⟨#[98]⟩]) := by
    intro b0 fA W hW h0 hf
    have hu : CdV (fun _ => True) W ⟨.int .i64 0, .slice (some ⟨g, 0, none⟩) 1 1, .int .i64 1, .int .i64 2, .slice none 0 0⟩ jdRl.2 :=
      CdV.mk 0 [(1, [98])] 1 2 [] _ _ [] ⟨_, 1, rfl, Nat.le_refl _, by decide, fun _ => ⟨g, 0, rfl, trivial, Nat.lt_of_lt_of_le hg.lt hW.size, fun k u hu => by rw [Nat.zero_add, (hg.below hW hg.lt).cell k]; simpa [tcells, tcell] using hu⟩⟩ (SlM.nil _ _) rfl (fun j h => absurd h (by simp)) (by decide) ⟨by decide, by decide⟩
    have hF : FtsM (fun _ => True) W (.slice (some ⟨fA, 0, none⟩) 2 2) jdFs :=
      ⟨⟨_, 2, rfl, Nat.le_refl _, by decide, fun _ => ⟨fA, 0, rfl, trivial, hf.lt, fun k u hu => by rw [Nat.zero_add, hf.cell k]; simpa [fcells, fcell, jdFs] using hu⟩⟩, by decide⟩
    refine (judge_any jdRl ⟨.int .i64 0, .slice (some ⟨g, 0, none⟩) 1 1, .int .i64 1, .int .i64 2, .slice none 0 0⟩ jdFs b0 _ _ _ W h0 hu (by decide) hF (HT.out.later ((hb2'.trans (hW.mono hb2'.size))))).mono ?_
    rintro e w' ⟨hb, -, -, h3⟩
    obtain ⟨-, h4, -⟩ := h3 jd_check jd_facts
    obtain ⟨q, cap, bs, h5, h6, h7, h8, h9, h10, h11, h12⟩ := h4 jd_truth
    rw [jd_bec] at h12
    exact ⟨hb, q, cap, bs, h5, h6, h7, h8, h9, h10, h11, h12⟩
  have HB2 := Lib.hid hb2
  clear hb2 hb2' hg
  have k0 := (Blk.new w2 27 #[.string ⟨#[97]⟩, .int .i64 0, .slice (some ⟨g, 0, none⟩) 1 1, .int .i64 1, .int .i64 2, .slice none 0 0]).alloc (.cells #[.string ⟨#[98]⟩, .int .i64 3, .string ⟨#[99]⟩, .int .i64 0] 30)
  have k1 := Blk.new (w2.alloc (.cells #[.string ⟨#[97]⟩, .int .i64 0, .slice (some ⟨g, 0, none⟩) 1 1, .int .i64 1, .int .i64 2, .slice none 0 0] 27)) 30 #[.string ⟨#[98]⟩, .int .i64 3, .string ⟨#[99]⟩, .int .i64 0]
  rw [show (w2.alloc (.cells #[.string ⟨#[97]⟩, .int .i64 0, .slice (some ⟨g, 0, none⟩) 1 1, .int .i64 1, .int .i64 2, .slice none 0 0] 27)).heap.size = w2.heap.size + 1 by simp] at k1
  have kb := ((Below.refl w2.heap.size w2).alloc (Nat.le_refl _) (.cells #[.string ⟨#[97]⟩, .int .i64 0, .slice (some ⟨g, 0, none⟩) 1 1, .int .i64 1, .int .i64 2, .slice none 0 0] 27)).alloc (by simp) (.cells #[.string ⟨#[98]⟩, .int .i64 3, .string ⟨#[99]⟩, .int .i64 0] 30)
  have HJ := Lib.hid (hJ.out _ _ _ kb k0 k1)
  have KB := Lib.hid (HB2.out.trans (kb.mono HB2.out.size))
  clear k0 k1 kb hJ
  go_wp2_with fail
  generalize (w2.alloc (.cells #[.string ⟨#[97]⟩, .int .i64 0, .slice (some ⟨g, 0, none⟩) 1 1, .int .i64 1, .int .i64 2, .slice none 0 0] 27)).alloc (.cells #[.string ⟨#[98]⟩, .int .i64 3, .string ⟨#[99]⟩, .int .i64 0] 30) = w3 at *
  refine HJ.out.mono ?_
  rintro e w4 ⟨hb4, q, cap, bs, rfl, hq, hc1, hc2, q0, q1, q2, hs⟩
  have HB4 := Lib.hid (KB.out.trans (hb4.mono KB.out.size))
  obtain ⟨b, off, cp, rfl, -, hbl, hd1, hd2, hcell⟩ := hs.open_ (by decide)
  have hcb := hcell 0 _ rfl
  clear hb4 hs HJ KB hcell
  go_wp2_with fail
  have hq1 := Blk.new w4 9 #[.string ⟨#[98]⟩]
  have hbe := (Below.refl w4.heap.size w4).alloc (Nat.le_refl _) (.cells #[.string ⟨#[98]⟩] 9)
  have HBe := Lib.hid (HB4.out.trans (hbe.mono HB4.out.size))
  refine (slices_Equal_string b off 1 cp w4.heap.size 0 1 1 [⟨#[98]⟩] [⟨#[98]⟩] _ (by decide) (by decide) (by decide) (by decide) (fun j hj => ?_) (fun j hj => ?_)).mono ?_
  · obtain rfl : j = 0 := by simpa using hj
    rw [hbe.cell (p := ⟨b, off + 0, none⟩) hbl]; exact hcb
  · obtain rfl : j = 0 := by simpa using hj
    exact hq1.cell 0
  rintro e w5 ⟨rfl, n5, rfl⟩
  clear hq1 hbe hcb hbl q0 q1 q2 hq HB4
  go_wp2_with fail
  go_ret
  exact ⟨by rfl, below_drewN HBe.out n5⟩
end Go.Proofs.YtonmpealebggoaaGreatDoor
