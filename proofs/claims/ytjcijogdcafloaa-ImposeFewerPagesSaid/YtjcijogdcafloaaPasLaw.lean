/- The builtin copy as a step of a region. -/
import Derived.Test.YtjcijogdcafloaaRasMk
import Derived.Test.YtjcijogdcafloaaPasPlain
import Derived.Laws.CopyOwn
namespace Go.Proofs.Ytjcijogdcafloaa
open Go.RowKit
/-- The builtin copy into a row of the call's own, as one step of a region that draws its order. -/
theorem step_copy_row {P : Program} {ops : Array Oper} {o : Oper} {a : Act} {w : World} {K : Act → World → Prop} {Q : Exit → Act → World → Prop} {E : Prop} (hgd : o.guard = none) (d s : Operand) (dT sT : TypeId)
    (ho : o.op = .call { callee := .builtin .copy, args := #[d, s], argTypes := #[dT, sT] }) (elem : TypeId) (hu : P.underlying dT = some (.slice elem)) (hsz : (P.info? elem).map (·.size) = some 1)
    (dp sp : Option Addr) (dLen dCap sLen sCap : Nat) (hd : a.eval d = .slice dp dLen dCap) (hs : a.eval s = .slice sp sLen sCap)
    (base g off n cap : Nat) (t : TypeId) (xs : List Value) (hown : w.ownsRow base t 1 (.slice (some ⟨g, 0, none⟩) n cap) n xs) (cs : List Value) (hn : cs.length = Nat.min sLen dLen)
    (hdp : dp = some ⟨g, off, none⟩) (hsp : ∃ ad, sp = some ad ∧ ∀ j v, cs[j]? = some v → w.cell? (ad.add j) = some v)
    (hfit : off + cs.length ≤ n) (h1 : ∀ v ∈ cs, v.oneCell' = true)
    (h : ∀ w', Hid (w'.ownsRow base t 1 (.slice (some ⟨g, 0, none⟩) n cap) n (splice xs off cs)) → Hid (w.grownBy w' (some g)) → K (a.put o.dst (goInt cs.length)) w') :
    if Region.wanted o (yielded ops a.tmps) = true then Oper.wp P o a w K Q else E := by
  have hw : Region.wanted o (yielded ops a.tmps) = true := by simp [Region.wanted, hgd]
  rw [if_pos hw]
  obtain ⟨hxl, hxs⟩ := hown
  rcases hxs with ⟨hv, _⟩ | ⟨g', cap', cur, hv, hb, hg, hnc, hcm, hcs, hx⟩
  · cases hv
  · injection hv with e1 _ e2
    injection e1 with e1
    injection e1 with e1
    subst e1; subst e2; subst hdp
    obtain ⟨ad, rfl, hsrc⟩ := hsp
    rw [Nat.mul_one] at hxl hcs hx
    have hrun := run_copy_row (P := P) w dT sT o.type elem g off dLen dCap ad sLen sCap cur t cs hu hsz hg hn hsrc (by omega) h1
    unfold Oper.wp
    simp [execOp, ho, resolve, invoke, builtin, hd, hs, hrun, Result.andThen]
    refine h _ ⟨by rw [length_splice _ _ _ (by omega)]; omega, .inr ⟨g, cap, _, rfl, hb, setRow_heap w g _ _ t _ hg, hnc, hcm, ?_, ?_⟩⟩ ⟨rfl, rfl, rfl, by simp [World.setRow], fun k hk hne => setRow_other w g k _ (fun e => hne (by rw [e]))⟩
    · have hcl : cur.toList.length = cap := by simpa using hcs
      have hl := length_splice cur.toList off cs (by omega)
      unfold splice at hl
      rw [Nat.mul_one, ← hcl, ← hl]; simp
    · unfold splice
      have hcl : cur.toList.length = cap := by simpa using hcs
      rw [Nat.mul_one, ← hx]
      rw [List.take_append, List.take_append, List.take_take, Nat.min_eq_right (show off ≤ n by omega), List.length_take, Nat.min_eq_left (show off ≤ cur.toList.length by omega), List.take_of_length_le (show cs.length ≤ n - off by omega), List.take_take, Nat.min_eq_left (show off ≤ n by omega), List.drop_take]
      congr 3
      omega
end Go.Proofs.Ytjcijogdcafloaa
