/- The words' slice is no longer than its capacity. -/
import Derived.Test.YtajmdgkchleipaaOpen
namespace Go.Proofs.Ytajmdgkchleipaa
open Go.ChangeShapes Go.WideShapes Go.Deep Para
theorem words_cap {H : Type} {enc : TypeId × Value → H} {W : World} {n : Nat} {A : Option Addr} {m c : Nat} {y : DataW H × List MemPlace} (h : DataW.trod enc Try.prog W 0 (fun _ => true) true n 22 [.slice A m c] = some y) : m ≤ c := by
  rcases open_slice_fields Try.underlying22 Try.underlying33 (by kernel_rfl) cells33 h with ⟨hc, _⟩ | ⟨a, len, cap, _, _, _, hc, _, hl, _⟩
  · simp only [List.cons.injEq, and_true] at hc
    injection hc with _ h1 h2
    omega
  · simp only [List.cons.injEq, and_true] at hc
    injection hc with _ h1 h2
    omega
end Go.Proofs.Ytajmdgkchleipaa
