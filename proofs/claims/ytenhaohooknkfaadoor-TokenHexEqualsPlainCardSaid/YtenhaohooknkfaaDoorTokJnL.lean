/- The walk of the law on joining: the tokens of a source, joined, are the same tokens. -/
import Derived.Test.YtenhaohooknkfaaDoorTokJoi
namespace Go.Proofs.YtenhaohooknkfaaDoor
open Go.RowKit Tk
/-- What is known of what was scanned. -/
theorem scan_facts {s : Src} {ts : List Tok} (h : scan s = .ok ts) : s.length ≤ 8192 ∧ ts.length ≤ s.length ∧ (∀ t ∈ ts.map (·.b), VTok t) ∧ (joinL false (ts.map (·.b))).length ≤ 4 * s.length := by
  unfold scan at h
  split at h
  · cases h
  · rename_i hl
    have := scan_valid s.length s _ 0 ts false (Nat.le_refl _) (Nat.lt_succ_self _) h
    exact ⟨by omega, scan_len h (Nat.lt_succ_self _), this⟩
theorem join_scan {ts : List BTok} (hv : ∀ t ∈ ts, VTok t) (hl : (joinL false ts).length ≤ 8192) : ∃ us, scan (joinL false ts) = .ok us ∧ us.map (·.b) = ts := by
  obtain ⟨us, h1, h2⟩ := scan_join ts false 0 ((joinL false ts).length + 1) hv (Nat.lt_succ_self _)
  exact ⟨us, by unfold scan; rw [if_neg (by omega)]; exact h1, h2⟩
set_option maxRecDepth 100000 in
set_option maxHeartbeats 4000000 in
theorem join_law (S : ByteArray) (w : World) (hT : Tab10 w) :
    Calls Tryd.prog 6 #[.string S] w fun e w' => e = .returned (.bool true) ∧ Below w.heap.size w w' := by
  have HSc := Lib.hid fun S W => Scan_any S W
  have HT := Lib.hid hT
  clear hT
  go_enter Tryd.func6, Tryd.ntmps6
  go_wp2_with fail
  refine (scans_any w).mono ?_
  rintro e w1 ⟨rfl, hb1⟩
  have HB1 := Lib.hid hb1
  clear hb1
  go_wp2_with fail
  refine (HSc.out S w1).mono ?_
  rintro e w2 ⟨hb2, hp2⟩
  have HB2 := Lib.hid (HB1.out.trans (hb2.mono HB1.out.size))
  clear hb2
  cases hsa : scan (bys S) with
  | error qe =>
    obtain ⟨q, er⟩ := qe
    rw [hsa] at hp2
    dsimp only at hp2
    subst hp2
    have her : (er != 0) = true := by simpa using scan_err hsa
    clear hsa
    go_wp2_with fail
    go_ret
    exact ⟨rfl, HB2.out⟩
  | ok ts =>
    rw [hsa] at hp2
    obtain ⟨v, rfl, ho⟩ := hp2
    obtain ⟨f1, f2, f3, f4⟩ := scan_facts hsa
    rw [bys_len] at f1 f2 f4
    have HJn := Lib.hid (join_any ts v _ w2 ho f3 (by omega) (HT.out.later HB2.out))
    have HO := Lib.hid ho
    have HF3 := Lib.hid f3
    obtain ⟨A, c, rfl⟩ := own_n ho
    clear hsa ho f3
    go_wp2_with fail
    refine HJn.out.mono ?_
    rintro e w3 ⟨hb3, hj⟩
    have HB3 := Lib.hid (HB2.out.trans (hb3.mono HB2.out.size))
    have HO3 := Lib.hid (own_below HO.out hb3)
    clear hb3
    rcases hj with ⟨hbig, rfl⟩ | ⟨hok, rfl⟩
    · have hs : (2048 : Int) < (S.size : Int) := by omega
      clear hbig f4
      go_wp2_with fail
      go_ret
      exact ⟨rfl, HB3.out⟩
    · obtain ⟨us, hu1, hu2⟩ := join_scan HF3.out hok
      generalize joinL false (ts.map (·.b)) = J at *
      obtain ⟨V, hV⟩ : ∃ V : ByteArray, V = ⟨J.toArray⟩ := ⟨_, rfl⟩
      rw [← hV]
      have HU := Lib.hid hu1
      have HU2 := Lib.hid hu2
      have hbv : bys V = J := by rw [hV, int_bys]
      have HBv := Lib.hid hbv
      clear hu1 hu2 hV hbv f4 hok
      go_wp2_with fail
      refine (HSc.out V w3).mono ?_
      rintro e w4 hp4
      rw [HBv.out, HU.out] at hp4
      obtain ⟨hb4, vu, rfl, hou⟩ := hp4
      have HB4 := Lib.hid (HB3.out.trans (hb4.mono HB3.out.size))
      have HSm := Lib.hid (same_toks _ _ ts us _ _ w4 (own_below HO3.out hb4) hou (by omega) HU2.out.symm)
      obtain ⟨A2, c2, rfl⟩ := own_n hou
      clear hb4 hou
      go_wp2_with fail
      refine HSm.out.mono ?_
      rintro e w5 ⟨rfl, hb5⟩
      have HB5 := Lib.hid (HB4.out.trans (hb5.mono HB4.out.size))
      clear hb5
      go_wp2_with fail
      go_ret
      exact ⟨rfl, HB5.out⟩
end Go.Proofs.YtenhaohooknkfaaDoor
