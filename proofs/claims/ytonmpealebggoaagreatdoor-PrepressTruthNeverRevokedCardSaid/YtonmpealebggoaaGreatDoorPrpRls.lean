/- The walk of rules: whether a rule is parsed. -/
import Derived.Test.YtonmpealebggoaaGreatDoorPrpPar
namespace Go.Proofs.YtonmpealebggoaaGreatDoor
open Go.RowKit Pr
def lowRl : Rl := ([97], .mk 0 [(1, [98])] 0 3 [])
theorem rules_parse : parseS [114, 117, 108, 101, 32, 97, 58, 32, 98, 32, 60, 51, 59] = some [lowRl] := by kernel_rfl
theorem rules_check : checkE [lowRl] = 0 := by decide +kernel
set_option maxRecDepth 100000 in
set_option maxHeartbeats 4000000 in
theorem rules_any (w : World) (hT : Tabs w ∧ ErrT w) :
    Calls Tryz.prog 5 #[] w fun e w' => e = .returned (.bool true) ∧ Below w.heap.size w w' := by
  have HP := Lib.hid (parse_any ⟨#[114, 117, 108, 101, 32, 97, 58, 32, 98, 32, 60, 51, 59]⟩ w (by decide) hT)
  rw [rules_parse] at HP
  clear hT
  go_enter Tryz.func5, Tryz.ntmps5
  go_wp2_with fail
  refine HP.out.mono ?_
  rintro e w2 ⟨hb, hq⟩
  rcases hq with ⟨-, v, hv, rfl⟩ | ⟨hn, -⟩
  case inr => exact absurd rules_check hn
  obtain ⟨A, cc, rfl⟩ := hv.form
  obtain ⟨b, off, rfl, -, hl, hc⟩ := rl_at hv (by decide)
  obtain ⟨A2, c2, A3, c3, -, q0, q1, q2, q3, q4, q5⟩ := hc 0 (by decide)
  have hcap := hv.caps.2.1
  have q4' : w2.cell? ⟨b, off + 4, none⟩ = some (.int .i64 3) := q4
  have HB := Lib.hid hb
  clear hc q0 q1 q2 q3 q5 hb hv
  have h1 : [lowRl].length = 1 := rfl
  rw [h1] at *
  go_wp2_with fail
  go_ret
  exact ⟨rfl, HB.out⟩
end Go.Proofs.YtonmpealebggoaaGreatDoor
