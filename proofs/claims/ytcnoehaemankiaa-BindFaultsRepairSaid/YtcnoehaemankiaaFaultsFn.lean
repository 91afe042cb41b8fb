/- The walks of slices.ContainsFunc with the closure of Faults. -/
import Derived.Test.YtcnoehaemankiaaLongest
import Derived.Test.YtcnoehaemankiaaContainsInts
namespace Go.Proofs.Ytcnoehaemankiaa
open Go.RowKit
/-- The captured variables in memory: the order in a box, the number in another. -/
structure Caps (w : World) (g1 g2 : Nat) (A : Option Addr) (n cap : Nat) (o : List Int) (x : Int) : Prop where
  ln : o.length = n
  box : w.cell? ⟨g1, 0, none⟩ = some (.slice A n cap)
  num : w.cell? ⟨g2, 0, none⟩ = some (.int .i64 x)
  sl : Sl w (fun _ => True) (.slice A n cap) (ints o)
theorem Caps.same {w w' : World} {g1 g2 : Nat} {A : Option Addr} {n cap : Nat} {o : List Int} {x : Int} (h : Caps w g1 g2 A n cap o x) (hs : Same w w') : Caps w' g1 g2 A n cap o x := by
  obtain ⟨q, rfl⟩ := hs
  exact ⟨h.ln, h.box, h.num, h.sl⟩
theorem clos_any (g1 g2 : Nat) (A : Option Addr) (n cap : Nat) (o : List Int) (x : Int) (j : Nat) (w : World) (h : Caps w g1 g2 A n cap o x) (hj : j < n) (hn : n ≤ 64) :
    Calls Try.prog 22 #[.int .i64 (j : Int), .pointer (some ⟨g1, 0, none⟩), .pointer (some ⟨g2, 0, none⟩)] w fun e w' => e = .returned (.bool (at_ o j == x)) ∧ Same w w' := by
  obtain ⟨b, off, hA, hb, hc⟩ := h.sl.plainA (by rw [ints_length, h.ln]; omega)
  subst hA
  have d1 := hc j _ (ints_get (by rw [h.ln]; exact hj))
  have HY : Hid (at_ o j = o.getD j 0) := rfl
  rw [← HY.out] at d1
  have d2 := h.box
  have d3 := h.num
  have f1 : (j : Int) < (n : Int) := by omega
  generalize at_ o j = y at *
  clear h hc
  go_enter Try.func22, Try.ntmps22
  go_wp2
  go_quiet (fail)
  go_wp2
  go_ret
  exact ⟨rfl, Same.drewN _ _⟩
def IdxPost (P : Prop) (w : World) (e : Ending) (w' : World) : Prop := (∃ z : Int, e = .returned (.int .i64 z) ∧ -1 ≤ z ∧ z ≤ 64 ∧ (0 ≤ z ↔ P)) ∧ Same w w'
theorem indexf_any (g1 g2 : Nat) (A : Option Addr) (n cap : Nat) (o : List Int) (x : Int) (v : Value) (K : List Nat) (w : World) (ok : Nat → Prop) (h : Caps w g1 g2 A n cap o x) (hn : n ≤ 64) (hK : ∀ a, a < K.length → kat K a < n) (hs : Sl w ok v (ints (nats_ K))) (hl : K.length ≤ 64) :
    Calls Try.prog 29 #[v, .func (.func 22) #[] #[.pointer (some ⟨g1, 0, none⟩), .pointer (some ⟨g2, 0, none⟩)]] w (IdxPost (∃ a, a < K.length ∧ at_ o (kat K a) = x) w) := by
  have hlen : (nats_ K).length = K.length := by simp [nats_]
  obtain ⟨A2, cap2, rfl⟩ := hs.form
  rw [ints_length, hlen] at hs ⊢
  have HS := Lib.hid hs
  have HC := Lib.hid h
  have HK := Lib.hid hK
  have HPY : Hid (∀ (w' : World) (k : Nat), k < K.length → at_ o (kat K k) = x → Same w w' → IdxPost (∃ a, a < K.length ∧ at_ o (kat K a) = x) w (.returned (.int .i64 (k : Int))) w') := fun w' k h1 h2 h3 => ⟨⟨_, rfl, by omega, by omega, by constructor; (intro _; exact ⟨k, h1, h2⟩); (intro _; omega)⟩, h3⟩
  have HPN : Hid (∀ (w' : World), (∀ a, a < K.length → at_ o (kat K a) ≠ x) → Same w w' → IdxPost (∃ a, a < K.length ∧ at_ o (kat K a) = x) w (.returned (.int .i64 (-1))) w') := fun w' h1 h3 => ⟨⟨_, rfl, by omega, by omega, by constructor; (intro h; omega); (intro ⟨a, h4, h5⟩; exact absurd h5 (h1 a h4))⟩, h3⟩
  generalize IdxPost (∃ a, a < K.length ∧ at_ o (kat K a) = x) w = Post at *
  generalize hkl : K.length = kl at *
  have HKL := Lib.hid hkl
  clear h hs hK hkl
  go_enter Try.func29, Try.ntmps29
  go_wp2
  go_loopw [8] (fun vi wr => ∃ k : Nat, k ≤ kl ∧ vi = .int .i64 k ∧ (∀ a, a < k → at_ o (kat K a) ≠ x) ∧ Same w wr) (fun i _ => kl - (intOf i).toNat)
  case atStart => exact ⟨0, by omega, rfl, fun j hj => by omega, Same.refl _⟩
  case round =>
    obtain ⟨k, hk, rfl, hall, hsm⟩ := hrel
    have HA := Lib.hid hall
    have HW := Lib.hid hsm
    clear hall hsm
    by_cases hlt : k < kl
    · obtain ⟨b, off, hA, hb, hc⟩ := (HS.out.same HW.out).plainA (by rw [ints_length, hlen]; omega)
      subst hA
      have d1 := hc k (.int .i64 ((kat K k : Nat) : Int)) (by
        have := HKL.out
        simp [ints, nats_, kat, List.getD_eq_getElem?_getD, List.getElem?_eq_getElem (show k < K.length by omega)])
      have HCl := Lib.hid (clos_any g1 g2 A n cap o x (kat K k) wr (HC.out.same HW.out) (HK.out k (by omega)) hn)
      clear hc
      by_cases he : at_ o (kat K k) = x
      · have hb : (at_ o (kat K k) == x) = true := by simpa using he
        rw [hb] at HCl
        have HE := Lib.hid he
        clear hb he
        go_wp2_with (go_at_call 22; refine HCl.out.mono ?_; rintro e w' ⟨rfl, hs'⟩)
        exact HPY.out _ k hlt HE.out (HW.out.trans hs')
      · have hb : (at_ o (kat K k) == x) = false := by simpa using he
        rw [hb] at HCl
        have HE := Lib.hid he
        clear hb he
        generalize hkk : kat K k = kk at *
        have HKK := Lib.hid hkk
        clear hkk
        go_wp2_with (go_at_call 22; refine HCl.out.mono ?_; rintro e w' ⟨rfl, hs'⟩; have HS' := Lib.hid hs'; clear hs')
        go_roundw
        case rel => exact ⟨k + 1, by omega, by go_num, fun a ha => by rcases Nat.lt_or_ge a k with h | h; exact HA.out a h; rw [show a = k by omega, HKK.out]; exact HE.out, HW.out.trans HS'.out⟩
        case measure => simp [intOf]; omega
    · obtain rfl : k = kl := by omega
      go_wp2
      exact HPN.out _ HA.out HW.out
def HasPost (P : Prop) (w : World) (e : Ending) (w' : World) : Prop := (∃ p : Bool, e = .returned (.bool p) ∧ (p = true ↔ P)) ∧ Same w w'
theorem containsf_any (g1 g2 : Nat) (A : Option Addr) (n cap : Nat) (o : List Int) (x : Int) (v : Value) (K : List Nat) (w : World) (ok : Nat → Prop) (h : Caps w g1 g2 A n cap o x) (hn : n ≤ 64) (hK : ∀ a, a < K.length → kat K a < n) (hs : Sl w ok v (ints (nats_ K))) (hl : K.length ≤ 64) :
    Calls Try.prog 21 #[v, .func (.func 22) #[] #[.pointer (some ⟨g1, 0, none⟩), .pointer (some ⟨g2, 0, none⟩)]] w (HasPost (∃ a, a < K.length ∧ at_ o (kat K a) = x) w) := by
  have HI := Lib.hid (indexf_any g1 g2 A n cap o x v K w ok h hn hK hs hl)
  generalize (∃ a, a < K.length ∧ at_ o (kat K a) = x) = P at *
  have HP : Hid (∀ (z : Int) (w' : World), (0 ≤ z ↔ P) → Same w w' → HasPost P w (.returned (.bool (decide (0 ≤ z)))) w') := fun z w' h1 h2 => ⟨⟨_, rfl, by simpa using h1⟩, h2⟩
  generalize HasPost P w = Post at *
  obtain ⟨A2, cap2, rfl⟩ := hs.form
  clear h hs hK
  go_enter Try.func21, Try.ntmps21
  go_wp2_with (go_at_call 29; refine HI.out.mono ?_; rintro e w' ⟨⟨z, rfl, h1, h2, h3⟩, h4⟩; have H3 := Lib.hid h3; have H4 := Lib.hid h4; clear h3 h4)
  exact HP.out z _ H3.out H4.out
end Go.Proofs.Ytcnoehaemankiaa
