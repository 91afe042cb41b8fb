/- The walk of show, of every kind. -/
import Derived.Test.YtonmpealebggoaaDoorPrpShC
namespace Go.Proofs.YtonmpealebggoaaDoor
open Go.RowKit Pr
theorem show_any : ∀ (f : Nat), f ≤ 13 → ShowAt f
  | 0, _ => fun o v P least w h hv hT => absurd hv (by simp [VC])
  | f + 1, hf => fun o v P least w h hv hT => by
    rcases hv with ⟨hk, he⟩ | ⟨hk, a, rfl, ha⟩ | ⟨hk, a, b, hc, ha, hb⟩
    · exact show_cmp f o v P least w h hk he hT
    · exact show_not f (by omega) (show_any f (by omega)) a v P least w h ha hT
    · generalize o.kind = k at *
      subst hc
      rcases hk with rfl | rfl
      · exact show_and f (by omega) (show_any f (by omega)) a b v P least w h ha hb hT
      · exact show_or f (by omega) (show_any f (by omega)) a b v P least w h ha hb hT
end Go.Proofs.YtonmpealebggoaaDoor
