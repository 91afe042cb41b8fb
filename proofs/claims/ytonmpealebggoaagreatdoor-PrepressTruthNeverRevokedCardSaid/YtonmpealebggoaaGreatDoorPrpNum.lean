/- The walk of number: digits in the text. -/
import Derived.Test.YtonmpealebggoaaGreatDoorPrpWnt
import Derived.Test.YtonmpealebggoaaGreatDoorLaidA
import Derived.Test.YtonmpealebggoaaGreatDoorPrpSho
import Derived.Shelf.Strconv.ErrVarAll
namespace Go.Proofs.YtonmpealebggoaaGreatDoor
open Go.RowKit Pr
/-- The library's errors are laid. -/
structure ErrT (w : World) : Prop where
  sx : ∃ t p, w.cell? ⟨1, 0, none⟩ = some (.iface t p)
  rg : ∃ t p, w.cell? ⟨2, 0, none⟩ = some (.iface t p)
  sz : 7 < w.heap.size
theorem ErrT.later {w w' : World} (h : ErrT w) (hb : Below w.heap.size w w') : ErrT w' := by
  obtain ⟨⟨t, p, h1⟩, ⟨t', p', h2⟩, h3⟩ := h
  exact ⟨⟨t, p, (hb.cell (p := ⟨1, 0, none⟩) (show 1 < w.heap.size by omega)).trans h1⟩, ⟨t', p', (hb.cell (p := ⟨2, 0, none⟩) (show 2 < w.heap.size by omega)).trans h2⟩, Nat.lt_of_lt_of_le h3 hb.size⟩
/-- What Atoi answers: a number, or an error. -/
def AtE (wd : Src) (e : Ending) : Prop := (∃ n, Lib.atoiAll wd = .ok n ∧ e = .returned (.tuple #[.int .i64 n, .nilIface])) ∨ ((∀ n, Lib.atoiAll wd ≠ .ok n) ∧ ∃ (n : Int) (N : Nat), e = .returned (.tuple #[.int .i64 n, .iface 165 (.pointer (some ⟨N, 0, none⟩))]))
theorem atoi_any (wd : Src) (hl : wd.length ≤ 4096) (w : World) (hE : ErrT w) : Calls Tryz.prog 96 #[.string (Bs wd)] w fun e w' => AtE wd e ∧ Below w.heap.size w w' := by
  have hsz : (Bs wd).size ≤ 4096 := by simpa [ByteArray.size] using hl
  have hd : (Bs wd).data.toList = wd := by simp
  obtain ⟨⟨t, p, h1⟩, ⟨t', p', h2⟩, h3⟩ := hE
  rcases hh : Lib.atoiAll wd with n | _ | _
  · refine (strconv_Atoi_ok (Bs wd) (by omega) n (by rw [hd]; exact hh) w).mono fun e w' ⟨a, b⟩ => ⟨.inl ⟨n, hh, a⟩, ?_⟩
    rcases b with rfl | ⟨t, rfl⟩
    · exact Below.refl _ _
    · exact Joins.below_bytesWorld _ _ _ _ (Nat.le_refl _)
  · refine (Any.strconv_Atoi_syntax laysC172 (Bs wd) (by omega) (by rw [hd]; exact hh) (.iface t p) w h1 (.inr ⟨t, p, rfl⟩)).mono fun e w' ⟨N, a, _, _, b⟩ => ⟨.inr ⟨fun n e => (by rw [hh] at e; cases e), 0, N, a⟩, b⟩
  · refine (Any.strconv_Atoi_range laysC172 (Bs wd) (by omega) (by rw [hd]; exact hh) (.iface t' p') w h2 (.inr ⟨t', p', rfl⟩)).mono fun e w' ⟨N, a, _, _, b⟩ => ⟨.inr ⟨fun n e => (by rw [hh] at e; cases e), _, N, a⟩, b⟩
theorem atoi_range {l : Src} {n : Int} (h : Lib.atoiAll l = .ok n) : -9223372036854775808 ≤ n ∧ n ≤ 9223372036854775807 := by
  cases l with
  | nil => cases h
  | cons c r =>
    unfold Lib.atoiAll at h
    dsimp only at h
    split at h
    · cases h
    · cases h
    · split at h
      · cases h
      · split at h
        · cases h
        · injection h with h
          subst h
          split <;> omega
set_option maxRecDepth 100000 in
set_option maxHeartbeats 4000000 in
theorem number_any (S : ByteArray) (K : Nat) (s : St) (most : Int) (w : World) (h : PsM S K s w) (hs : S.size ≤ 4096) (hT : ∀ W, Below K w W → Tabs W ∧ ErrT W) :
    Calls Tryz.prog 74 #[.pointer (some ⟨K, 0, none⟩), .int .i64 most] w fun e w' => w.grownBy w' (some K) ∧ (∀ r, pNum most s = some r → e = .returned (.int .i64 r.1) ∧ PsM S K r.2 w') ∧ (pNum most s = none → PanE S e) := by
  have HNx := Lib.hid (fun W (hb : Below w.heap.size w W) => (h.later hb).next hs)
  have hwl := h.word
  have HAt := Lib.hid (atoi_any s.1 (by omega) w (hT w (Below.refl _ _)).2)
  have HIt := Lib.hid (fun n (h0 : -9223372036854775808 ≤ n) (h1 : n ≤ 9223372036854775807) W (hb : Below w.heap.size w W) => itoa_any n h0 h1 W (hT W (⟨hb.os, hb.tape, hb.output, hb.size, fun k hk => hb.block k (Nat.lt_trans hk h.lt)⟩)).1)
  obtain ⟨a, ha, q0, q1, q2⟩ := h.opens
  have hl := h.lt
  clear h
  have HV : Hid (pNum most s = match numV most s.1 with | some n => some (n, lexW s.2) | none => none) := rfl
  generalize pNum most s = V at *
  go_enter Tryz.func74, Tryz.ntmps74
  go_wp2_with fail
  refine HAt.out.mono ?_
  rintro e w5 ⟨hat, hb5⟩
  have HB5 := Lib.hid hb5
  have HG5 := Lib.hid (Lib.grownBy_below (World.grownBy.refl w (some K)) hb5)
  have HGq : Hid (∀ q, w.grownBy (w5.drewN q) (some K)) := fun q => ⟨HG5.out.os, HG5.out.tape, HG5.out.output, HG5.out.size, HG5.out.block⟩
  have r1 := (hb5.cell (p := ⟨K, 1, none⟩) hl).trans q1
  have r2 := (hb5.cell (p := ⟨K, 2, none⟩) hl).trans q2
  have hl5 := Nat.lt_of_lt_of_le hl hb5.size
  clear hb5 q0 q1 q2
  rcases hat with ⟨n, hn, rfl⟩ | ⟨hn, n, N, rfl⟩
  · have HNv : Hid (numV most s.1 = if 0 ≤ n ∧ n ≤ most ∧ Lib.itoa n = s.1 then some n else none) := by unfold Hid numV; rw [hn]
    have hrg := atoi_range hn
    clear hn
    by_cases n0 : n < 0
    · have u0 : decide (n < 0) = true := by simp; omega
      have HV2 := Lib.hid (show V = none by rw [HV.out, HNv.out, if_neg (by intro h; omega)])
      clear n0
      go_wp2_with fail
      go_quiet (fail)
      go_wp2_with fail
      exact ⟨rfl, HGq.out nq, fun r e => by (first | (rw [HV2.out] at e; cases e) | simp at e), fun _ => ⟨a, ha, rfl⟩⟩
    have u0 : decide (n < 0) = false := by simp; omega
    by_cases n1 : n > most
    · have u1 : decide (n > most) = true := by simp; omega
      have HV2 := Lib.hid (show V = none by rw [HV.out, HNv.out, if_neg (by intro h; omega)])
      clear n0 n1
      go_wp2_with fail
      go_quiet (fail)
      go_wp2_with fail
      exact ⟨rfl, HGq.out nq, fun r e => by (first | (rw [HV2.out] at e; cases e) | simp at e), fun _ => ⟨a, ha, rfl⟩⟩
    have u1 : decide (n > most) = false := by simp; omega
    have HItn := Lib.hid (fun W (hb : Below w5.heap.size w5 W) => HIt.out n (by omega) (by omega) W (HB5.out.trans (hb.mono HB5.out.size)))
    by_cases n2 : Lib.itoa n = s.1
    · have u2 : (Lib.itoa n == (Bs s.1).toList) = true := by rw [Lib.toList_data]; simpa using n2
      have HV2 := Lib.hid (show V = some (n, lexW s.2) by rw [HV.out, HNv.out, if_pos ⟨by omega, by omega, n2⟩])
      clear n0 n1 n2
      generalize Bs s.1 = A at *
      go_wp2_with fail
      have hbs := bel_some w5
      have g1 := fun p : Bel w5 => bel_cell (a := ⟨K, 1, none⟩) hl5 r1 p
      have g2 := fun p : Bel w5 => bel_cell (a := ⟨K, 2, none⟩) hl5 r2 p
      refine wp_region_bel w5 (by kernel_rfl) (by kernel_rfl) ((Below.refl _ _).drew) ?_
      repeat (quiet_step ((go_at_call 79; with_reducible exact bel_call HItn.out _)))
      refine wpQuiet_nil ?_
      intro w6 hw'
      obtain ⟨p6, hp6⟩ := hw'
      have hb6 : Below w5.heap.size w5 w6 := by rw [hp6]; exact p6.h
      clear hp6 p6
      have HB6 := Lib.hid (HB5.out.trans (hb6.mono HB5.out.size))
      have HG6 := Lib.hid (Lib.grownBy_below HG5.out hb6)
      have k1 := (hb6.cell (p := ⟨K, 1, none⟩) hl5).trans r1
      clear hb6 g1 g2
      try rw [u2]
      try simp only [u2]
      have HN6 := Lib.hid (HNx.out w6 HB6.out)
      go_wp2_with fail
      refine HN6.out.mono ?_; rintro e w7 ⟨rfl, hp, hg⟩
      have HP := Lib.hid hp
      have HG7 := Lib.hid (Lib.grownBy_trans HG6.out hg)
      clear hp hg
      go_wp2_with fail
      go_ret
      exact ⟨HG7.out, fun r e => by rw [HV2.out] at e; injection e with e; subst e; exact ⟨rfl, HP.out⟩, fun e => by (rw [HV2.out] at e; cases e)⟩
    · have u2 : (Lib.itoa n == (Bs s.1).toList) = false := by rw [Lib.toList_data]; simpa using n2
      have HV2 := Lib.hid (show V = none by rw [HV.out, HNv.out, if_neg (fun h => n2 h.2.2)])
      clear n0 n1 n2
      generalize Bs s.1 = A at *
      go_wp2_with fail
      have hbs := bel_some w5
      have g1 := fun p : Bel w5 => bel_cell (a := ⟨K, 1, none⟩) hl5 r1 p
      have g2 := fun p : Bel w5 => bel_cell (a := ⟨K, 2, none⟩) hl5 r2 p
      refine wp_region_bel w5 (by kernel_rfl) (by kernel_rfl) ((Below.refl _ _).drew) ?_
      repeat (quiet_step ((go_at_call 79; with_reducible exact bel_call HItn.out _)))
      refine wpQuiet_nil ?_
      intro w6 hw'
      obtain ⟨p6, hp6⟩ := hw'
      have hb6 : Below w5.heap.size w5 w6 := by rw [hp6]; exact p6.h
      clear hp6 p6
      have HB6 := Lib.hid (HB5.out.trans (hb6.mono HB5.out.size))
      have HG6 := Lib.hid (Lib.grownBy_below HG5.out hb6)
      have k1 := (hb6.cell (p := ⟨K, 1, none⟩) hl5).trans r1
      clear hb6 g1 g2
      try rw [u2]
      try simp only [u2]
      go_wp2_with fail
      exact ⟨rfl, HG6.out, fun r e => by (first | (rw [HV2.out] at e; cases e) | simp at e), fun _ => ⟨a, ha, rfl⟩⟩
  · have HV2 := Lib.hid (show V = none by
      rw [HV.out]
      have : numV most s.1 = none := by
        unfold numV
        cases hh : Lib.atoiAll s.1 with
        | ok m => exact absurd hh (hn m)
        | _ => rfl
      rw [this])
    clear hn
    go_wp2_with fail
    go_quiet (fail)
    go_wp2_with fail
    exact ⟨rfl, HGq.out nq, fun r e => by (first | (rw [HV2.out] at e; cases e) | simp at e), fun _ => ⟨a, ha, rfl⟩⟩
end Go.Proofs.YtonmpealebggoaaGreatDoor
