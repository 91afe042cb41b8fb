/- slices.Equal at tokens of two rows that read alike; slices.EqualFunc with the closure of sameTokens: rows that read alike but for the places, and rows of other lengths. -/
import Derived.Test.YtenhaohooknkfaaDoorTokCov
import Derived.Deep.DeepMust
import Derived.RegionTactic
import Derived.BigRegion
import Derived.Deep.RegionHeld3
namespace Go.Proofs.YtenhaohooknkfaaDoor
open Go.RowKit Tk
theorem own_some {w : World} {base : Nat} {e : TypeId} {size n c : Nat} {A : Option Addr} {xs : List Value} (h : w.ownsRow base e size (.slice A n c) n xs) (hn : 0 < n) : ∃ g, A = some ⟨g, 0, none⟩ ∧ base ≤ g ∧ g < w.heap.size := by
  obtain ⟨g, cap, e1, -, -⟩ := h.form hn
  injection e1 with e1
  subst e1
  exact ⟨g, rfl, (own_lt h g rfl).1, (own_lt h g rfl).2⟩
set_option maxRecDepth 100000 in
set_option maxHeartbeats 4000000 in
theorem equal_toks (va vb : Value) (l : List Tok) (ba bb : Nat) (w : World) (ha : w.ownsRow ba 28 5 va l.length (toksC l)) (hb : w.ownsRow bb 28 5 vb l.length (toksC l)) (hn : l.length ≤ 100000) :
    Calls Tryd.prog 12 #[va, vb] w fun e w' => e = .returned (.bool true) ∧ Below w.heap.size w w' := by
  have HA := Lib.hid ha
  have HB := Lib.hid hb
  obtain ⟨Aa, ca, eva⟩ := own_n ha
  obtain ⟨Ab, cb, evb⟩ := own_n hb
  clear ha hb
  generalize hlen : l.length = n at *
  have HN := Lib.hid hlen
  clear hlen
  subst eva evb
  go_enter Tryd.func12, Tryd.ntmps12
  go_wp2_with fail
  go_loopw [13] (fun vi wr => ∃ i : Nat, i ≤ n ∧ vi = .int .i64 i ∧ ∃ k, wr = w.drewN k) (fun i _ => n - (intOf i).toNat)
  case atStart => exact ⟨0, by omega, rfl, 0, rfl⟩
  case round =>
    obtain ⟨i, hi, rfl, k, rfl⟩ := hrel
    by_cases hlt : i < n
    · obtain ⟨g1, rfl, -, hg1⟩ := own_some HA.out (by omega)
      obtain ⟨g2, rfl, -, hg2⟩ := own_some HB.out (by omega)
      obtain ⟨p0, p1, p2, p3, p4⟩ := toks_cells HA.out i (by rw [HN.out]; exact hlt)
      obtain ⟨q0, q1, q2, q3, q4⟩ := toks_cells HB.out i (by rw [HN.out]; exact hlt)
      generalize l[i]'(by rw [HN.out]; exact hlt) = x at *
      obtain ⟨⟨xk, xi, xt⟩, xa, xe⟩ := x
      dsimp only at p0 p1 p2 p3 p4 q0 q1 q2 q3 q4
      obtain ⟨tV, htV⟩ : ∃ tV : ByteArray, tV = ⟨xt.toArray⟩ := ⟨_, rfl⟩
      rw [← htV] at p2 q2
      clear htV
      have hne : ∀ W, (binOp .neq 28 (.agg #[.int .i64 xk, .int .i64 xi, .string tV, .int .i64 (xa : Int), .int .i64 (xe : Int)]) (.agg #[.int .i64 xk, .int .i64 xi, .string tV, .int .i64 (xa : Int), .int .i64 (xe : Int)])).run Tryd.prog W = .ok (.bool false) W := fun W => by
        simp [go_sem]
      go_wp2_with fail
      go_region
      go_wp2_with fail
      go_roundw
      case rel => exact ⟨i + 1, by omega, by go_num, k + 1, rfl⟩
      case measure => simp [intOf]; omega
    · obtain rfl : i = n := by omega
      go_wp2_with fail
      go_ret
      exact ⟨rfl, below_drewN (Below.refl _ w) k⟩
set_option maxRecDepth 100000 in
set_option maxHeartbeats 4000000 in
theorem same_clo (k i a e a2 e2 : Int) (t : ByteArray) (w : World) :
    Calls Tryd.prog 23 #[tokV k i t a e, tokV k i t a2 e2] w fun r w' => r = .returned (.bool true) ∧ Below w.heap.size w w' := by
  have hb1 := Blk.new w 28 #[.int .i64 k, .int .i64 i, .string t, .int .i64 a, .int .i64 e]
  have hb2 := hb1.alloc (.cells #[.int .i64 k, .int .i64 i, .string t, .int .i64 a2, .int .i64 e2] 28)
  have hb3 : Blk ((w.alloc (.cells #[.int .i64 k, .int .i64 i, .string t, .int .i64 a, .int .i64 e] 28)).alloc (.cells #[.int .i64 k, .int .i64 i, .string t, .int .i64 a2, .int .i64 e2] 28)) (w.heap.size + 1) 28 #[.int .i64 k, .int .i64 i, .string t, .int .i64 a2, .int .i64 e2] := by
    have := Blk.new (w.alloc (.cells #[.int .i64 k, .int .i64 i, .string t, .int .i64 a, .int .i64 e] 28)) 28 #[.int .i64 k, .int .i64 i, .string t, .int .i64 a2, .int .i64 e2]
    simpa using this
  have hl2 := ((Below.refl w.heap.size w).alloc (Nat.le_refl _) (.cells #[.int .i64 k, .int .i64 i, .string t, .int .i64 a, .int .i64 e] 28)).alloc (by simp) (.cells #[.int .i64 k, .int .i64 i, .string t, .int .i64 a2, .int .i64 e2] 28)
  have hz2 : ((w.alloc (.cells #[.int .i64 k, .int .i64 i, .string t, .int .i64 a, .int .i64 e] 28)).alloc (.cells #[.int .i64 k, .int .i64 i, .string t, .int .i64 a2, .int .i64 e2] 28)).heap.size = w.heap.size + 2 := by simp
  have HB2 := Lib.hid hb2
  have HB3 := Lib.hid hb3
  have HL2 := Lib.hid hl2
  have HZ2 := Lib.hid hz2
  have HBa := Lib.hid fun a e W => bare_any k i a e t W
  clear hb1 hb2 hb3 hl2 hz2
  unfold tokV at HBa ⊢
  go_enter Tryd.func23, Tryd.ntmps23
  go_wp2_with fail
  generalize (w.alloc (.cells #[.int .i64 k, .int .i64 i, .string t, .int .i64 a, .int .i64 e] 28)).alloc (.cells #[.int .i64 k, .int .i64 i, .string t, .int .i64 a2, .int .i64 e2] 28) = w2 at *
  generalize hT : w.heap.size = T at *
  obtain ⟨n0, n1, n2, n3, n4⟩ := tok_cells HB2.out
  obtain ⟨s0, s1, s2, s3, s4⟩ := tok_cells HB3.out
  have hS0 : w2.drew.cell? ⟨T, 0, none⟩ = some (.int .i64 k) ∧ w2.drew.cell? ⟨T, 1, none⟩ = some (.int .i64 i) ∧ w2.drew.cell? ⟨T, 2, none⟩ = some (.string t) ∧ w2.drew.cell? ⟨T, 3, none⟩ = some (.int .i64 a) ∧ w2.drew.cell? ⟨T, 4, none⟩ = some (.int .i64 e) ∧ w2.drew.cell? ⟨T + 1, 0, none⟩ = some (.int .i64 k) ∧ w2.drew.cell? ⟨T + 1, 1, none⟩ = some (.int .i64 i) ∧ w2.drew.cell? ⟨T + 1, 2, none⟩ = some (.string t) ∧ w2.drew.cell? ⟨T + 1, 3, none⟩ = some (.int .i64 a2) ∧ w2.drew.cell? ⟨T + 1, 4, none⟩ = some (.int .i64 e2) ∧ Below w2.heap.size w2 w2.drew := ⟨n0, n1, n2, n3, n4, s0, s1, s2, s3, s4, (Below.refl _ _).drew⟩
  have HK : Hid (∀ w' w'' : World, (w'.cell? ⟨T, 0, none⟩ = some (.int .i64 k) ∧ w'.cell? ⟨T, 1, none⟩ = some (.int .i64 i) ∧ w'.cell? ⟨T, 2, none⟩ = some (.string t) ∧ w'.cell? ⟨T, 3, none⟩ = some (.int .i64 a) ∧ w'.cell? ⟨T, 4, none⟩ = some (.int .i64 e) ∧ w'.cell? ⟨T + 1, 0, none⟩ = some (.int .i64 k) ∧ w'.cell? ⟨T + 1, 1, none⟩ = some (.int .i64 i) ∧ w'.cell? ⟨T + 1, 2, none⟩ = some (.string t) ∧ w'.cell? ⟨T + 1, 3, none⟩ = some (.int .i64 a2) ∧ w'.cell? ⟨T + 1, 4, none⟩ = some (.int .i64 e2) ∧ Below w2.heap.size w2 w') → Below w'.heap.size w' w'' → (w''.cell? ⟨T, 0, none⟩ = some (.int .i64 k) ∧ w''.cell? ⟨T, 1, none⟩ = some (.int .i64 i) ∧ w''.cell? ⟨T, 2, none⟩ = some (.string t) ∧ w''.cell? ⟨T, 3, none⟩ = some (.int .i64 a) ∧ w''.cell? ⟨T, 4, none⟩ = some (.int .i64 e) ∧ w''.cell? ⟨T + 1, 0, none⟩ = some (.int .i64 k) ∧ w''.cell? ⟨T + 1, 1, none⟩ = some (.int .i64 i) ∧ w''.cell? ⟨T + 1, 2, none⟩ = some (.string t) ∧ w''.cell? ⟨T + 1, 3, none⟩ = some (.int .i64 a2) ∧ w''.cell? ⟨T + 1, 4, none⟩ = some (.int .i64 e2) ∧ Below w2.heap.size w2 w'')) := by
    rintro w' w'' ⟨a0, a1, a2, a3, a4, a5, a6, a7, a8, a9, a10⟩ hb
    have h0 := a10.size
    have h1 := HZ2.out
    have l1 : T < w'.heap.size := by omega
    have l2 : T + 1 < w'.heap.size := by omega
    exact ⟨(hb.cell (p := ⟨T, 0, none⟩) l1).trans a0, (hb.cell (p := ⟨T, 1, none⟩) l1).trans a1, (hb.cell (p := ⟨T, 2, none⟩) l1).trans a2, (hb.cell (p := ⟨T, 3, none⟩) l1).trans a3, (hb.cell (p := ⟨T, 4, none⟩) l1).trans a4, (hb.cell (p := ⟨T + 1, 0, none⟩) l2).trans a5, (hb.cell (p := ⟨T + 1, 1, none⟩) l2).trans a6, (hb.cell (p := ⟨T + 1, 2, none⟩) l2).trans a7, (hb.cell (p := ⟨T + 1, 3, none⟩) l2).trans a8, (hb.cell (p := ⟨T + 1, 4, none⟩) l2).trans a9, a10.trans (hb.mono a10.size)⟩
  have HTq := Lib.hid hT
  clear n0 n1 n2 n3 n4 s0 s1 s2 s3 s4 hT
  go_region_held3 (fun w' => w'.cell? ⟨T, 0, none⟩ = some (.int .i64 k) ∧ w'.cell? ⟨T, 1, none⟩ = some (.int .i64 i) ∧ w'.cell? ⟨T, 2, none⟩ = some (.string t) ∧ w'.cell? ⟨T, 3, none⟩ = some (.int .i64 a) ∧ w'.cell? ⟨T, 4, none⟩ = some (.int .i64 e) ∧ w'.cell? ⟨T + 1, 0, none⟩ = some (.int .i64 k) ∧ w'.cell? ⟨T + 1, 1, none⟩ = some (.int .i64 i) ∧ w'.cell? ⟨T + 1, 2, none⟩ = some (.string t) ∧ w'.cell? ⟨T + 1, 3, none⟩ = some (.int .i64 a2) ∧ w'.cell? ⟨T + 1, 4, none⟩ = some (.int .i64 e2) ∧ Below w2.heap.size w2 w')
    (first | exact hS0 | (exact HK.out _ _ (by first | assumption | exact hS0 | exact ⟨by assumption, by assumption, by assumption, by assumption, by assumption, by assumption, by assumption, by assumption, by assumption, by assumption, by assumption⟩) (by assumption)))
    (first | (go_at_call 10; refine (HBa.out _ _ _).mono ?_; rintro e w7 ⟨rfl, hb7⟩))
  have hbx := (Below.refl w2.heap.size w2).drew.trans (‹Below w2.drew.heap.size w2.drew _›)
  have HB8 := Lib.hid (hbx.trans (hb7.mono hbx.size))
  clear hbx hb7 hS0
  go_wp2_with fail
  go_ret
  exact ⟨rfl, by have h := HL2.out; rw [← HTq.out] at h; exact h.trans (HB8.out.mono h.size)⟩
set_option maxRecDepth 100000 in
set_option maxHeartbeats 4000000 in
theorem equalF_toks (va vb : Value) (l m : List Tok) (ba bb : Nat) (w : World) (ha : w.ownsRow ba 28 5 va l.length (toksC l)) (hb : w.ownsRow bb 28 5 vb m.length (toksC m)) (hn : l.length ≤ 100000) (hlm : l.map (·.b) = m.map (·.b)) :
    Calls Tryd.prog 22 #[va, vb, .func (.func 23) #[] #[]] w fun e w' => e = .returned (.bool true) ∧ Below w.heap.size w w' := by
  have hml : m.length = l.length := by have := congrArg List.length hlm; simpa using this.symm
  rw [hml] at hb
  have HA := Lib.hid ha
  have HB := Lib.hid hb
  obtain ⟨Aa, ca, eva⟩ := own_n ha
  obtain ⟨Ab, cb, evb⟩ := own_n hb
  clear ha hb
  generalize hlen : l.length = n at *
  have HN := Lib.hid hlen
  have HM := Lib.hid hml
  have HLM : Hid (∀ i (h1 : i < l.length) (h2 : i < m.length), l[i].b = m[i].b) := fun i h1 h2 => by
    have := congrArg (fun x => x[i]?) hlm
    simpa [h1, h2] using this
  clear hlen hml hlm
  subst eva evb
  go_enter Tryd.func22, Tryd.ntmps22
  go_wp2_with fail
  go_loopw [7, 8, 9, 17] (fun _ _ _ vi wr => ∃ i : Nat, i ≤ n ∧ vi = .int .i64 i ∧ Below w.heap.size w wr) (fun _ _ _ i _ => n - (intOf i).toNat)
  case atStart => exact ⟨0, by omega, rfl, Below.refl _ _⟩
  case round =>
    obtain ⟨i, hi, rfl, hbl⟩ := hrel
    have HBl := Lib.hid hbl
    by_cases hlt : i < n
    · have ha2 := own_below HA.out hbl
      have hb2 := own_below HB.out hbl
      obtain ⟨g1, rfl, -, hg1⟩ := own_some ha2 (by omega)
      obtain ⟨g2, rfl, -, hg2⟩ := own_some hb2 (by omega)
      obtain ⟨p0, p1, p2, p3, p4⟩ := toks_cells ha2 i (by rw [HN.out]; exact hlt)
      obtain ⟨q0, q1, q2, q3, q4⟩ := toks_cells hb2 i (by rw [HM.out]; exact hlt)
      have hxy := HLM.out i (by rw [HN.out]; exact hlt) (by rw [HM.out]; exact hlt)
      generalize l[i]'(by rw [HN.out]; exact hlt) = x at *
      generalize m[i]'(by rw [HM.out]; exact hlt) = y at *
      obtain ⟨⟨xk, xi, xt⟩, xa, xe⟩ := x
      obtain ⟨yb, ya, ye⟩ := y
      dsimp only at hxy p0 p1 p2 p3 p4 q0 q1 q2 q3 q4
      subst hxy
      dsimp only at q0 q1 q2
      obtain ⟨tV, htV⟩ : ∃ tV : ByteArray, tV = ⟨xt.toArray⟩ := ⟨_, rfl⟩
      rw [← htV] at p2 q2
      have HC := Lib.hid fun W => same_clo xk xi xa xe ya ye tV W
      unfold tokV at HC
      have hzr := hbl.size
      clear htV ha2 hb2 hbl
      go_upto_region 7 with (fail)
      go_wp2_with fail
      refine (HC.out _).mono ?_
      rintro e w3 ⟨rfl, hb3⟩
      have hba := (HBl.out.alloc HBl.out.size (.cells #[.int .i64 xk, .int .i64 xi, .string tV, .int .i64 (xa : Int), .int .i64 (xe : Int)] 28)).alloc (by simp; omega) (.cells #[.int .i64 xk, .int .i64 xi, .string tV, .int .i64 (ya : Int), .int .i64 (ye : Int)] 28)
      have HB3 := Lib.hid (hba.trans (hb3.mono hba.size))
      clear hb3 hba
      go_wp2_with fail
      go_roundw
      case rel => exact ⟨i + 1, by omega, by go_num, HB3.out⟩
      case measure => simp [intOf]; omega
    · obtain rfl : i = n := by omega
      go_wp2_with fail
      go_ret
      exact ⟨rfl, HBl.out⟩
set_option maxRecDepth 100000 in
theorem equalF_not (va vb : Value) (l m : List Tok) (ba bb : Nat) (w : World) (ha : w.ownsRow ba 28 5 va l.length (toksC l)) (hb : w.ownsRow bb 28 5 vb m.length (toksC m)) (hlm : l.length ≠ m.length) (f : Value) :
    Calls Tryd.prog 22 #[va, vb, f] w fun e w' => e = .returned (.bool false) ∧ Below w.heap.size w w' := by
  obtain ⟨Aa, ca, rfl⟩ := own_n ha
  obtain ⟨Ab, cb, rfl⟩ := own_n hb
  have hne : ((l.length : Int) != (m.length : Int)) = true := by rw [bne_iff_ne]; omega
  generalize l.length = n at *
  generalize m.length = k at *
  clear ha hb hlm
  go_enter Tryd.func22, Tryd.ntmps22
  go_wp2_with fail
  go_ret
  exact ⟨rfl, Below.refl _ _⟩
set_option maxRecDepth 100000 in
theorem same_toks (va vb : Value) (l m : List Tok) (ba bb : Nat) (w : World) (ha : w.ownsRow ba 28 5 va l.length (toksC l)) (hb : w.ownsRow bb 28 5 vb m.length (toksC m)) (hn : l.length ≤ 100000) (hlm : l.map (·.b) = m.map (·.b)) :
    Calls Tryd.prog 14 #[va, vb] w fun e w' => e = .returned (.bool true) ∧ Below w.heap.size w w' := by
  have HC := Lib.hid (equalF_toks va vb l m ba bb w ha hb hn hlm)
  clear ha hb hn hlm
  go_enter Tryd.func14, Tryd.ntmps14
  go_wp2_with fail
  refine HC.out.mono ?_
  rintro e w3 ⟨rfl, hb3⟩
  go_wp2_with fail
  go_ret
  exact ⟨rfl, hb3⟩
set_option maxRecDepth 100000 in
theorem same_not (va vb : Value) (l m : List Tok) (ba bb : Nat) (w : World) (ha : w.ownsRow ba 28 5 va l.length (toksC l)) (hb : w.ownsRow bb 28 5 vb m.length (toksC m)) (hlm : l.length ≠ m.length) :
    Calls Tryd.prog 14 #[va, vb] w fun e w' => e = .returned (.bool false) ∧ Below w.heap.size w w' := by
  have HC := Lib.hid fun f => equalF_not va vb l m ba bb w ha hb hlm f
  clear ha hb hlm
  go_enter Tryd.func14, Tryd.ntmps14
  go_wp2_with fail
  refine (HC.out _).mono ?_
  rintro e w3 ⟨rfl, hb3⟩
  go_wp2_with fail
  go_ret
  exact ⟨rfl, hb3⟩
end Go.Proofs.YtenhaohooknkfaaDoor
