/- The walks of the search among rules, as Check asks it. -/
import Derived.Test.YtonmpealebggoaaGreatDoorPrpCnd
namespace Go.Proofs.YtonmpealebggoaaGreatDoor
open Go.RowKit Pr
def rl0 : Rl := ([], cd0)
/-- The cells of a rule, in their shapes. -/
theorem rl_at {P : Nat → Prop} {w : World} {A : Option Addr} {n c : Nat} {l : List Rl} (h : RlsV P w (.slice A n c) l) (hn : 0 < l.length) : ∃ b off, A = some ⟨b, off, none⟩ ∧ P b ∧ b < w.heap.size ∧
    ∀ i, i < l.length → ∃ A2 c2 A3 c3, CdV P w ⟨.int .i64 (l.getD i rl0).2.kind, .slice A2 (l.getD i rl0).2.terms.length c2, .int .i64 (l.getD i rl0).2.cmp, .int .i64 (l.getD i rl0).2.than, .slice A3 (l.getD i rl0).2.kids.length c3⟩ (l.getD i rl0).2 ∧
      w.cell? ⟨b, off + i * 6, none⟩ = some (.string (Bs (l.getD i rl0).1)) ∧ w.cell? ⟨b, off + i * 6 + 1, none⟩ = some (.int .i64 (l.getD i rl0).2.kind) ∧ w.cell? ⟨b, off + i * 6 + 2, none⟩ = some (.slice A2 (l.getD i rl0).2.terms.length c2) ∧
      w.cell? ⟨b, off + i * 6 + 3, none⟩ = some (.int .i64 (l.getD i rl0).2.cmp) ∧ w.cell? ⟨b, off + i * 6 + 4, none⟩ = some (.int .i64 (l.getD i rl0).2.than) ∧ w.cell? ⟨b, off + i * 6 + 5, none⟩ = some (.slice A3 (l.getD i rl0).2.kids.length c3) := by
  obtain ⟨b, off, hA, hP, hl, hc⟩ := h.at_ hn
  refine ⟨b, off, hA, hP, hl, fun i hi => ?_⟩
  obtain ⟨u, hu, q0, q1, q2, q3, q4, q5⟩ := hc i hi
  have hg : l.getD i rl0 = l[i] := by rw [List.getD_eq_getElem?_getD, List.getElem?_eq_getElem hi]; rfl
  rw [hg]
  obtain ⟨tv2, dv2, vs2, rfl, ht2, hd2, -⟩ := hu.open_
  obtain ⟨A2, cp2, rfl⟩ := ht2.form
  obtain ⟨A3, cp3, rfl⟩ := hd2.form
  exact ⟨A2, cp2, A3, cp3, hu, q0, q1, q2, q3, q4, q5⟩
theorem zip_take {α β : Type} : ∀ (l : List α) (m : List β) (i : Nat), (l.take i).zip (m.take i) = (l.zip m).take i
  | [], _, i => by simp
  | _ :: _, [], i => by simp
  | _ :: _, _ :: _, 0 => rfl
  | x :: l, y :: m, i + 1 => by simp [zip_take l m i]
theorem rl_take {P : Nat → Prop} {w : World} {A : Option Addr} {n c : Nat} {l : List Rl} (h : RlsV P w (.slice A n c) l) {i : Nat} (hi : i ≤ l.length) : RlsV P w (.slice A i c) (l.take i) := by
  obtain ⟨us, h1, h2, h3, h4⟩ := h
  have hm : min i l.length = i := Nat.min_eq_left hi
  refine ⟨us.take i, by rw [List.length_take, List.length_take]; omega, ?_, fun j a b => ?_, fun r hr => h4 r (List.mem_of_mem_take hr)⟩
  · obtain ⟨A', cap, hv, c1, c2, c3⟩ := h2
    injection hv with e1 e2 e3
    subst e1; subst e3
    refine ⟨A, c, by rw [List.length_take, hm], by rw [List.length_take, hm]; omega, c2, fun hn => ?_⟩
    rw [List.length_take, hm] at hn
    obtain ⟨b, off, ha, hb, hl, hc⟩ := c3 (by omega)
    refine ⟨b, off, ha, hb, hl, fun k u hu => hc k u ?_⟩
    have e : (l.take i).zip (us.take i) = (l.zip us).take i := zip_take l us i
    rw [e] at hu
    have hk := (List.getElem?_eq_some_iff.1 hu).1
    have : rcells (l.zip us) = rcells ((l.zip us).take i) ++ rcells ((l.zip us).drop i) := by unfold rcells; rw [← List.flatMap_append, List.take_append_drop]
    rw [this, List.getElem?_append_left hk]; exact hu
  · simp only [List.getElem_take]
    exact h3 j (by rw [List.length_take] at a; omega) (by rw [List.length_take] at b; omega)
theorem RlsV.caps {P : Nat → Prop} {w : World} {A : Option Addr} {n c : Nat} {l : List Rl} (h : RlsV P w (.slice A n c) l) : n = l.length ∧ l.length ≤ c ∧ c ≤ maxLen := by
  obtain ⟨us, _, h2, _⟩ := h; exact h2.caps
theorem sameName_any (nm0 : Src) (k c n : Int) (tA dA : Option Addr) (tn tc dn dc : Nat) (nm : Src) (C : Nat) (w : World) (hc : w.cell? ⟨C, 0, none⟩ = some (.string (Bs nm))) (hl : C < w.heap.size) :
    Calls Tryz.prog 31 #[.agg #[.string (Bs nm0), .int .i64 k, .slice tA tn tc, .int .i64 c, .int .i64 n, .slice dA dn dc], .pointer (some ⟨C, 0, none⟩)] w fun e w' => e = .returned (.bool (nm0 == nm)) ∧ Below w.heap.size w w' := by
  have HE := Lib.hid (beq_bs nm0 nm)
  generalize Bs nm = B at *
  generalize Bs nm0 = A at *
  go_enter Tryz.func31, Tryz.ntmps31
  go_wp2
  go_ret
  exact ⟨by rw [← HE.out]; rfl, (Below.refl _ _).alloc (Nat.le_refl _) _⟩
set_option maxRecDepth 100000 in
set_option maxHeartbeats 4000000 in
theorem idxRule_any (l : List Rl) (nm : Src) (C : Nat) (v : Value) (P : Nat → Prop) (w : World) (h : RlsV P w v l) (hc : w.cell? ⟨C, 0, none⟩ = some (.string (Bs nm))) (hl : C < w.heap.size) :
    Calls Tryz.prog 47 #[v, .func (.func 31) #[] #[.pointer (some ⟨C, 0, none⟩)]] w fun e w' => (∃ r : Int, e = .returned (.int .i64 r) ∧ decide (r ≥ 0) = l.any (fun x => x.1 == nm)) ∧ Below w.heap.size w w' := by
  have HN := Lib.hid (fun i (hi : i < l.length) (h : (l.take i).any (fun x => x.1 == nm) = false) => any_take (fun x : Rl => x.1 == nm) rl0 l hi h)
  have HT := Lib.hid (fun i (h : (l.take i).any (fun x => x.1 == nm) = true) => any_take_true (fun x : Rl => x.1 == nm) l i h)
  have HZ : Hid ((l.take l.length).any (fun x => x.1 == nm) = l.any (fun x => x.1 == nm)) := by unfold Hid; rw [List.take_length]
  obtain ⟨A, c, rfl⟩ := h.form
  have cmc := h.caps
  unfold maxLen at cmc
  have HL := Lib.hid h
  have HC := Lib.hid hc
  clear h hc
  generalize hnn : l.length = n at *
  have HNn := Lib.hid hnn
  clear hnn
  go_enter Tryz.func47, Tryz.ntmps47
  go_wp2
  go_loopw [8] (fun vi wr => ∃ i : Nat, i ≤ n ∧ vi = .int .i64 i ∧ (l.take i).any (fun x => x.1 == nm) = false ∧ Below w.heap.size w wr) (fun i _ => n - (intOf i).toNat)
  case atStart => exact ⟨0, by omega, rfl, by simp, Below.refl _ _⟩
  case round =>
    obtain ⟨i, hi, rfl, hno, hb⟩ := hrel
    have HB := Lib.hid hb
    have HO := Lib.hid hno
    clear hno
    by_cases hlt : i < n
    · obtain ⟨b, off, rfl, -, hbl, hcl⟩ := rl_at HL.out (by rw [HNn.out]; omega)
      obtain ⟨A2, c2, A3, c3, -, q0, q1, q2, q3, q4, q5⟩ := hcl i (by rw [HNn.out]; exact hlt)
      replace q0 := (hb.cell (p := ⟨b, off + i * 6, none⟩) hbl).trans q0
      replace q1 := (hb.cell (p := ⟨b, off + i * 6 + 1, none⟩) hbl).trans q1
      replace q2 := (hb.cell (p := ⟨b, off + i * 6 + 2, none⟩) hbl).trans q2
      replace q3 := (hb.cell (p := ⟨b, off + i * 6 + 3, none⟩) hbl).trans q3
      replace q4 := (hb.cell (p := ⟨b, off + i * 6 + 4, none⟩) hbl).trans q4
      replace q5 := (hb.cell (p := ⟨b, off + i * 6 + 5, none⟩) hbl).trans q5
      have hsz := hb.size
      have HM := Lib.hid (HN.out i hlt HO.out)
      have HCw := (hb.cell (p := ⟨C, 0, none⟩) hl).trans HC.out
      clear hcl hb HO
      generalize l.getD i rl0 = x at *
      obtain ⟨m, d⟩ := x
      dsimp only at q0 q1 q2 q3 q4 q5 HM
      have HA := Lib.hid (sameName_any m d.kind d.cmp d.than A2 A3 d.terms.length c2 d.kids.length c3 nm C wr HCw (by omega))
      clear HCw
      generalize d.kind = x0 at *
      generalize d.terms.length = x1 at *
      generalize d.cmp = x2 at *
      generalize d.than = x3 at *
      generalize d.kids.length = x4 at *
      go_wp2_with (go_at_call 31; refine HA.out.mono ?_; rintro e w5 ⟨rfl, hb5⟩)
      · rename_i hx
        go_ret
        refine ⟨⟨(i : Int), rfl, ?_⟩, HB.out.trans (hb5.mono HB.out.size)⟩
        rw [HT.out (i + 1) (by rw [HM.out]; exact hx)]
        simp
      · rename_i hx
        exact ⟨⟨i + 1, by omega, by go_num, by rw [HM.out]; exact hx, HB.out.trans (hb5.mono HB.out.size)⟩, by simp [intOf]; omega⟩
    · obtain rfl : i = n := by omega
      go_wp2
      go_ret
      exact ⟨⟨-1, rfl, by rw [← HZ.out, HO.out]; rfl⟩, HB.out⟩
set_option maxHeartbeats 1000000 in
theorem hasRule_any (l : List Rl) (nm : Src) (C : Nat) (v : Value) (P : Nat → Prop) (w : World) (h : RlsV P w v l) (hc : w.cell? ⟨C, 0, none⟩ = some (.string (Bs nm))) (hl : C < w.heap.size) :
    Calls Tryz.prog 30 #[v, .func (.func 31) #[] #[.pointer (some ⟨C, 0, none⟩)]] w fun e w' => e = .returned (.bool (l.any (fun x => x.1 == nm))) ∧ Below w.heap.size w w' := by
  have HI := Lib.hid (idxRule_any l nm C v P w h hc hl)
  obtain ⟨A, c, rfl⟩ := h.form
  clear h hc
  generalize l.length = n at *
  generalize (l.any (fun x => x.1 == nm)) = res at *
  go_enter Tryz.func30, Tryz.ntmps30
  go_wp2_with (go_at_call 47; refine HI.out.mono ?_; rintro e w5 ⟨⟨r, rfl, hr⟩, hb5⟩)
  go_ret
  exact ⟨by rw [← hr]; rfl, hb5⟩
theorem b5_cells {w : World} {g : Nat} {t : TypeId} {a b c d e : Value} (h : Blk w g t #[a, b, c, d, e]) : w.cell? ⟨g, 0, none⟩ = some a ∧ w.cell? ⟨g, 1, none⟩ = some b ∧ w.cell? ⟨g, 2, none⟩ = some c ∧ w.cell? ⟨g, 3, none⟩ = some d ∧ w.cell? ⟨g, 4, none⟩ = some e :=
  ⟨by simpa using Blk.cell h 0, by simpa using Blk.cell h 1, by simpa using Blk.cell h 2, by simpa using Blk.cell h 3, by simpa using Blk.cell h 4⟩
theorem b6_cells {w : World} {g : Nat} {t : TypeId} {a b c d e f : Value} (h : Blk w g t #[a, b, c, d, e, f]) : w.cell? ⟨g, 0, none⟩ = some a ∧ w.cell? ⟨g, 1, none⟩ = some b ∧ w.cell? ⟨g, 2, none⟩ = some c ∧ w.cell? ⟨g, 3, none⟩ = some d ∧ w.cell? ⟨g, 4, none⟩ = some e ∧ w.cell? ⟨g, 5, none⟩ = some f :=
  ⟨by simpa using Blk.cell h 0, by simpa using Blk.cell h 1, by simpa using Blk.cell h 2, by simpa using Blk.cell h 3, by simpa using Blk.cell h 4, by simpa using Blk.cell h 5⟩
end Go.Proofs.YtonmpealebggoaaGreatDoor
