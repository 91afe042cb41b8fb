/- The walk of compare, the first error of a comparison. -/
import Derived.Test.YtonmpealebggoaaDoorPrpNm
import Derived.Test.YtonmpealebggoaaDoorPrpTru
namespace Go.Proofs.YtonmpealebggoaaDoor
open Go.RowKit Pr
abbrev Bs (l : Src) : ByteArray := ⟨l.toArray⟩
def tagg (x : Tm) : Value := .agg #[.int .i64 x.1, .string (Bs x.2)]
theorem beq_bs (a b : Src) : ((Bs a).toList == (Bs b).toList) = (a == b) := by rw [Lib.toList_data, Lib.toList_data]
theorem sameTerm_any (x : Tm) (nm : Src) (C : Nat) (w : World) (hc : w.cell? ⟨C, 1, none⟩ = some (.string (Bs nm))) (hl : C < w.heap.size) :
    Calls Tryd.prog 79 #[tagg x, .pointer (some ⟨C, 0, none⟩)] w fun e w' => e = .returned (.bool (x.2 == nm)) ∧ Below w.heap.size w w' := by
  obtain ⟨k, n⟩ := x
  unfold tagg
  have HE := Lib.hid (beq_bs n nm)
  dsimp only at HE ⊢
  generalize Bs nm = B at *
  generalize Bs n = A at *
  go_enter Tryd.func79, Tryd.ntmps79
  go_wp2
  go_ret
  exact ⟨by rw [← HE.out]; rfl, (Below.refl _ _).alloc (Nat.le_refl _) _⟩
theorem any_take {α : Type} (p : α → Bool) (d : α) (l : List α) {i : Nat} (hi : i < l.length) (h : (l.take i).any p = false) : (l.take (i + 1)).any p = p (l.getD i d) := by
  rw [List.take_add_one, List.any_append, h, List.getD_eq_getElem?_getD, List.getElem?_eq_getElem hi]; simp
theorem any_take_true {α : Type} (p : α → Bool) (l : List α) (i : Nat) (h : (l.take i).any p = true) : l.any p = true := by
  obtain ⟨x, hx, h2⟩ := List.any_eq_true.1 h
  exact List.any_eq_true.2 ⟨x, List.mem_of_mem_take hx, h2⟩
set_option maxRecDepth 100000 in
set_option maxHeartbeats 4000000 in
theorem idxTerm_any (l : List Tm) (nm : Src) (C : Nat) (v : Value) (P : Nat → Prop) (w : World) (h : SlM w P v l.length (tcells l)) (hc : w.cell? ⟨C, 1, none⟩ = some (.string (Bs nm))) (hl : C < w.heap.size) :
    Calls Tryd.prog 104 #[v, .func (.func 79) #[] #[.pointer (some ⟨C, 0, none⟩)]] w fun e w' => (∃ r : Int, e = .returned (.int .i64 r) ∧ decide (r ≥ 0) = l.any (fun x => x.2 == nm)) ∧ Below w.heap.size w w' := by
  have HN := Lib.hid (fun i (hi : i < l.length) (h : (l.take i).any (fun x => x.2 == nm) = false) => any_take (fun x : Tm => x.2 == nm) tm0 l hi h)
  have HT := Lib.hid (fun i (h : (l.take i).any (fun x => x.2 == nm) = true) => any_take_true (fun x : Tm => x.2 == nm) l i h)
  have HZ : Hid ((l.take l.length).any (fun x => x.2 == nm) = l.any (fun x => x.2 == nm)) := by unfold Hid; rw [List.take_length]
  obtain ⟨A, c, rfl⟩ := h.form
  have cmc := h.caps
  unfold maxLen at cmc
  have HL := Lib.hid h
  have HC := Lib.hid hc
  clear h hc
  generalize hnn : l.length = n at *
  have HNn := Lib.hid hnn
  clear hnn
  go_enter Tryd.func104, Tryd.ntmps104
  go_wp2
  go_loopw [8] (fun vi wr => ∃ i : Nat, i ≤ n ∧ vi = .int .i64 i ∧ (l.take i).any (fun x => x.2 == nm) = false ∧ Below w.heap.size w wr) (fun i _ => n - (intOf i).toNat)
  case atStart => exact ⟨0, by omega, rfl, by simp, Below.refl _ _⟩
  case round =>
    obtain ⟨i, hi, rfl, hno, hb⟩ := hrel
    have HB := Lib.hid hb
    have HO := Lib.hid hno
    clear hno
    by_cases hlt : i < n
    · obtain ⟨b, off, rfl, -, hbl, hcl⟩ := tm_at (by rw [HNn.out]; exact HL.out) (by rw [HNn.out]; omega)
      obtain ⟨q0, q1⟩ := hcl i (by rw [HNn.out]; exact hlt)
      replace q0 := (hb.cell (p := ⟨b, off + i * 2, none⟩) hbl).trans q0
      replace q1 := (hb.cell (p := ⟨b, off + i * 2 + 1, none⟩) hbl).trans q1
      have hsz := hb.size
      have HA := Lib.hid (sameTerm_any (l.getD i tm0) nm C wr ((hb.cell (p := ⟨C, 1, none⟩) hl).trans HC.out) (by omega))
      have HM := Lib.hid (HN.out i hlt HO.out)
      clear hcl hb HO
      generalize l.getD i tm0 = x at *
      obtain ⟨k, m⟩ := x
      dsimp only [tagg] at q0 q1 HA HM
      go_wp2_with (go_at_call 79; refine HA.out.mono ?_; rintro e w5 ⟨rfl, hb5⟩)
      · rename_i hx
        go_ret
        refine ⟨⟨(i : Int), rfl, ?_⟩, HB.out.trans (hb5.mono HB.out.size)⟩
        rw [HT.out (i + 1) (by rw [HM.out]; exact hx)]
        simp
      · rename_i hx
        exact ⟨⟨i + 1, by omega, by go_num, by rw [HM.out]; exact hx, HB.out.trans (hb5.mono HB.out.size)⟩, by simp [intOf]; omega⟩
    · obtain rfl : i = n := by omega
      go_wp2
      go_ret
      exact ⟨⟨-1, rfl, by rw [← HZ.out, HO.out]; rfl⟩, HB.out⟩
set_option maxHeartbeats 1000000 in
theorem hasTerm_any (l : List Tm) (nm : Src) (C : Nat) (v : Value) (P : Nat → Prop) (w : World) (h : SlM w P v l.length (tcells l)) (hc : w.cell? ⟨C, 1, none⟩ = some (.string (Bs nm))) (hl : C < w.heap.size) :
    Calls Tryd.prog 78 #[v, .func (.func 79) #[] #[.pointer (some ⟨C, 0, none⟩)]] w fun e w' => e = .returned (.bool (l.any (fun x => x.2 == nm))) ∧ Below w.heap.size w w' := by
  have HI := Lib.hid (idxTerm_any l nm C v P w h hc hl)
  obtain ⟨A, c, rfl⟩ := h.form
  clear h hc
  generalize l.length = n at *
  generalize (l.any (fun x => x.2 == nm)) = res at *
  go_enter Tryd.func78, Tryd.ntmps78
  go_wp2_with (go_at_call 104; refine HI.out.mono ?_; rintro e w5 ⟨⟨r, rfl, hr⟩, hb5⟩)
  go_ret
  exact ⟨by rw [← hr]; rfl, hb5⟩
end Go.Proofs.YtonmpealebggoaaDoor
