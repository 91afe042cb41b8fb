/- The walks of want, name, sign: the parser's small readers; its panic. -/
import Derived.Test.YtonmpealebggoaaGreatDoorPrpNxt
namespace Go.Proofs.YtonmpealebggoaaGreatDoor
open Go.RowKit Pr
/-- The parser in block K stands at s in the text S. -/
def PsM (S : ByteArray) (K : Nat) (s : St) (w : World) : Prop := ∃ a : Nat, PsAt S.data.toList a s ∧ Row w K [.string S, .int .i64 (a : Int), .string (Bs s.1)]
/-- The parser's panic at a place. -/
def failV (a : Nat) : PanicEntry := { v := .iface 61 (.agg #[.int .i64 (a : Int)]), recovered := false }
def PanE (S : ByteArray) (e : Ending) : Prop := ∃ a : Nat, a ≤ S.size ∧ e = .panicked [failV a]
theorem PsM.next {S : ByteArray} {K : Nat} {s : St} {w : World} (h : PsM S K s w) (hs : S.size ≤ 4096) :
    Calls Tryz.prog 25 #[.pointer (some ⟨K, 0, none⟩)] w fun e w' => e = .returned (.tuple #[]) ∧ PsM S K (lexW s.2) w' ∧ w.grownBy w' (some K) := by
  obtain ⟨a, hp, hr⟩ := h
  exact next_any S K a s w hr hp hs
theorem PsM.lt {S : ByteArray} {K : Nat} {s : St} {w : World} (h : PsM S K s w) : K < w.heap.size := by obtain ⟨a, hp, hr⟩ := h; exact hr.lt
theorem PsM.opens {S : ByteArray} {K : Nat} {s : St} {w : World} (h : PsM S K s w) : ∃ a : Nat, a ≤ S.size ∧ w.cell? ⟨K, 0, none⟩ = some (.string S) ∧ w.cell? ⟨K, 1, none⟩ = some (.int .i64 (a : Int)) ∧ w.cell? ⟨K, 2, none⟩ = some (.string (Bs s.1)) := by
  obtain ⟨a, hp, hr⟩ := h
  refine ⟨a, ?_, hr.at_ (i := 0) (by simp), hr.at_ (i := 1) (by simp), hr.at_ (i := 2) (by simp)⟩
  have := hp.le
  simp at this
  omega
theorem PsM.below {S : ByteArray} {K B : Nat} {s : St} {w w' : World} (h : PsM S K s w) (hb : Below B w w') (hK : K < B) : PsM S K s w' := by
  obtain ⟨a, hp, hr⟩ := h
  exact ⟨a, hp, hr.below hb hK⟩
theorem PsM.later {S : ByteArray} {K : Nat} {s : St} {w w' : World} (h : PsM S K s w) (hb : Below w.heap.size w w') : PsM S K s w' := h.below hb h.lt
set_option maxHeartbeats 2000000 in
theorem want_any (S : ByteArray) (K : Nat) (s : St) (wd : Src) (w : World) (h : PsM S K s w) (hs : S.size ≤ 4096) :
    Calls Tryz.prog 26 #[.pointer (some ⟨K, 0, none⟩), .string (Bs wd)] w fun e w' => w.grownBy w' (some K) ∧ (∀ s', pWant wd s = some s' → e = .returned (.tuple #[]) ∧ PsM S K s' w') ∧ (pWant wd s = none → PanE S e) := by
  have HN := Lib.hid (h.next hs)
  obtain ⟨a, ha, q0, q1, q2⟩ := h.opens
  have hl := h.lt
  have HE := Lib.hid (beq_bs s.1 wd)
  clear h
  unfold pWant
  by_cases h1 : s.1 = wd
  · have u1 : ((Bs s.1).toList == (Bs wd).toList) = true := by rw [HE.out]; simpa using h1
    have HI : Hid (pWant wd s = some (lexW s.2)) := if_pos h1
    rw [if_pos h1]
    generalize lexW s.2 = s2 at *
    generalize Bs s.1 = A at *
    generalize Bs wd = B at *
    clear h1
    go_enter Tryz.func26, Tryz.ntmps26
    go_wp2_with fail
    refine HN.out.mono ?_; rintro e w2 ⟨rfl, hp, hg⟩
    go_wp2_with fail
    go_end0
    exact ⟨hg, fun s' e => by injection e with e; subst e; exact ⟨rfl, hp⟩, fun e => by cases e⟩
  · have u1 : ((Bs s.1).toList == (Bs wd).toList) = false := by rw [HE.out]; simpa using h1
    rw [if_neg h1]
    generalize Bs s.1 = A at *
    generalize Bs wd = B at *
    clear h1
    go_enter Tryz.func26, Tryz.ntmps26
    go_wp2_with fail
    exact ⟨rfl, World.grownBy.refl _ _, fun s' e => by (first | cases e | simp at e), fun _ => ⟨a, ha, rfl⟩⟩
theorem PsM.word {S : ByteArray} {K : Nat} {s : St} {w : World} (h : PsM S K s w) : s.1.length ≤ S.size := by
  obtain ⟨a, hp, hr⟩ := h
  have := hp.le
  simp at this
  omega
set_option maxHeartbeats 2000000 in
theorem name_any (S : ByteArray) (K : Nat) (s : St) (w : World) (h : PsM S K s w) (hs : S.size ≤ 4096) :
    Calls Tryz.prog 27 #[.pointer (some ⟨K, 0, none⟩)] w fun e w' => w.grownBy w' (some K) ∧ (∀ r, pName s = some r → e = .returned (.string (Bs r.1)) ∧ PsM S K r.2 w') ∧ (pName s = none → PanE S e) := by
  have HNx := Lib.hid (fun W (hb : Below w.heap.size w W) => (h.later hb).next hs)
  have hwl := h.word
  have HPl := Lib.hid (show Calls Tryz.prog 29 #[.string (Bs s.1)] w fun e w' => e = .returned (.bool (plainB s.1)) ∧ Below w.heap.size w w' by have := plain_any (Bs s.1) w (by show s.1.toArray.size ≤ _; simp; omega); simpa using this)
  obtain ⟨a, ha, q0, q1, q2⟩ := h.opens
  have hl := h.lt
  clear h
  unfold pName
  generalize plainB s.1 = pb at *
  cases pb
  · have hn : (if (false : Bool) = true then some (s.1, lexW s.2) else none) = none := rfl
    rw [hn]
    generalize Bs s.1 = A at *
    go_enter Tryz.func27, Tryz.ntmps27
    go_wp2_with fail
    refine HPl.out.mono ?_; rintro e w2 ⟨rfl, hb2⟩
    have q1' := (hb2.cell (p := ⟨K, 1, none⟩) hl).trans q1
    have HG := Lib.hid (Lib.grownBy_below (World.grownBy.refl w (some K)) hb2)
    have hl2 := Nat.lt_of_lt_of_le hl hb2.size
    clear hb2
    go_wp2_with fail
    exact ⟨rfl, HG.out, fun s' e => by (first | cases e | simp at e), fun _ => ⟨a, ha, rfl⟩⟩
  · have hn : (if (true : Bool) = true then some (s.1, lexW s.2) else none) = some (s.1, lexW s.2) := rfl
    rw [hn]
    generalize lexW s.2 = s2 at *
    generalize s.1 = nm at *
    go_enter Tryz.func27, Tryz.ntmps27
    go_wp2_with fail
    refine HPl.out.mono ?_; rintro e w2 ⟨rfl, hb2⟩
    have HN := Lib.hid (HNx.out w2 hb2)
    have HG := Lib.hid (Lib.grownBy_below (World.grownBy.refl w (some K)) hb2)
    clear hb2
    go_wp2_with fail
    refine HN.out.mono ?_; rintro e w3 ⟨rfl, hp, hg⟩
    have HP := Lib.hid hp
    have HG3 := Lib.hid (Lib.grownBy_trans HG.out hg)
    clear hp hg
    go_wp2_with fail
    go_ret
    exact ⟨HG3.out, fun r e => by injection e with e; subst e; exact ⟨rfl, HP.out⟩, fun e => by (first | cases e | simp at e)⟩
set_option maxHeartbeats 2000000 in
theorem sign_any (S : ByteArray) (K : Nat) (s : St) (w : World) (h : PsM S K s w) (hs : S.size ≤ 4096) :
    Calls Tryz.prog 71 #[.pointer (some ⟨K, 0, none⟩)] w fun e w' => e = .returned (.int .i64 (pSign s).1) ∧ PsM S K (pSign s).2 w' ∧ w.grownBy w' (some K) := by
  have HN := Lib.hid (h.next hs)
  have HP := Lib.hid h
  obtain ⟨a, ha, q0, q1, q2⟩ := h.opens
  have hl := h.lt
  clear h
  unfold pSign
  by_cases h1 : s.1 = [45]
  · have u1 : ((Bs s.1).toList == [45]) = true := by rw [Lib.toList_data]; simpa using h1
    rw [if_pos h1]
    generalize lexW s.2 = s2 at *
    generalize Bs s.1 = A at *
    clear h1
    go_enter Tryz.func71, Tryz.ntmps71
    go_wp2_with fail
    refine HN.out.mono ?_; rintro e w2 ⟨rfl, hp, hg⟩
    go_wp2_with fail
    go_ret
    exact ⟨rfl, hp, hg⟩
  · have u1 : ((Bs s.1).toList == [45]) = false := by rw [Lib.toList_data]; simpa using h1
    rw [if_neg h1]
    generalize Bs s.1 = A at *
    clear h1
    go_enter Tryz.func71, Tryz.ntmps71
    go_wp2_with fail
    go_ret
    exact ⟨rfl, HP.out, World.grownBy.refl _ _⟩
end Go.Proofs.YtonmpealebggoaaGreatDoor
