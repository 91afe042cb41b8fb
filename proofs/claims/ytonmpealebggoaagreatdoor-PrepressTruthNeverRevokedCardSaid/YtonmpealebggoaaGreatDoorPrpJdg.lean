/- The walk of Judge at one rule. -/
import Derived.Test.YtonmpealebggoaaGreatDoorPrpNms
import Derived.Test.YtonmpealebggoaaGreatDoorTailHeld
import Derived.Test.YtonmpealebggoaaGreatDoorLaidD
import Derived.Deep.RegionHeld3
namespace Go.Proofs.YtonmpealebggoaaGreatDoor
open Go.RowKit Pr
open Go.Lib Go.Sort Go.Joins
theorem eFd : ElemK Tryz.prog 52 58 (.agg #[.string ⟨#[]⟩, .bool false, .slice none 0 0]) 3 48 := ElemK.mk_ Tryz.underlying52 (by kernel_rfl) rfl
theorem putRow_frs {α : Type} [Inhabited α] (enc : α → Value) (w : World) (n g off : Nat) (d : Array α) : FrS w.heap.size (fun k => k = g) w (Go.Sort.putRow enc (Go.Sort.ahead w n) g off d) :=
  ⟨rfl, rfl, rfl, by simp [Go.Sort.ahead], fun k _ hn => by
    have hn' : ¬ g = k := fun e => hn e.symm
    simp [Go.Sort.putRow, Go.Sort.mapBlock, Go.Sort.ahead, Array.getElem?_modify, hn']⟩
theorem grow_below (w : World) (os : Array Obj) : Below w.heap.size w (grow w os) := by
  have := Lib.below_grow w.heap.size w (Nat.le_refl _) 0 os
  exact this
theorem holds_own {w : World} {base g c : Nat} {ss : List Src} (h : w.ownsRow base 9 1 (.slice (some ⟨g, 0, none⟩) ss.length c) ss.length (snames ss)) (hn : 0 < ss.length) : Go.Sort.Holds encStr w g 0 ss.toArray ∧ g < w.heap.size ∧ base ≤ g ∧ ss.length ≤ c ∧ c ≤ maxLen := by
  obtain ⟨-, h1, h2⟩ := (SlM.of_own h).caps
  obtain ⟨g', cap, ev, hb, hgl, hcell, hfz⟩ := own_cells h hn
  injection ev with e1 _ e3
  injection e1 with e1
  injection e1 with e1
  subst e1
  refine ⟨fun j hj => ⟨?_, hfz _⟩, hgl, hb, h1, h2⟩
  rw [Nat.zero_add]
  have hj2 : j < ss.length := by simpa using hj
  have := hcell j (.string (Bs ss[j])) (by unfold snames; rw [List.getElem?_map, List.getElem?_eq_getElem hj2]; rfl)
  rw [this]
  simp [hj2]
theorem sort_frame {w : World} {g c N : Nat} {ss : List Src} (hN : N = ss.length) (hH : Go.Sort.Holds encStr w g 0 ss.toArray) (hg : g < w.heap.size) (hs : ss.length < 4611686018427387904) :
    Calls Tryz.prog 42 #[.slice (some ⟨g, 0, none⟩) N c] w fun e w' => e = .returned (.tuple #[]) ∧ FrS w.heap.size (fun k => k = g) w w' ∧ ∃ zs : List Src, zs.length = N ∧ Go.Sort.Holds encStr w' g 0 zs.toArray := by
  subst hN
  refine (slices_Sort_string g 0 c ss w hH hg hs).mono ?_
  rintro e w' ⟨h1, n, os, rfl⟩
  have hf := putRow_frs encStr w n g 0 (ss.mergeSort fun x y => decide (x ≤ y)).toArray
  have hb := grow_below (Go.Sort.putRow encStr (Go.Sort.ahead w n) g 0 (ss.mergeSort fun x y => decide (x ≤ y)).toArray) os
  refine ⟨h1, hf.trans (FrS.of_below hb hf.size), ss.mergeSort fun x y => decide (x ≤ y), by simp, ?_⟩
  have hh := Go.Sort.holds_putRow encStr (Go.Sort.ahead w n) g 0 ss.toArray (ss.mergeSort fun x y => decide (x ≤ y)).toArray hH (by simp)
  intro j hj
  obtain ⟨a, b⟩ := hh j hj
  have hgs : g < (Go.Sort.putRow encStr (Go.Sort.ahead w n) g 0 (ss.mergeSort fun x y => decide (x ≤ y)).toArray).heap.size := Nat.lt_of_lt_of_le hg hf.size
  exact ⟨(World.cell?_of_block (a := ⟨g, 0 + j, none⟩) (hb.block g hgs)).trans a, (World.frozen?_of_block (a := ⟨g, 0 + j, none⟩) (hb.block g hgs)).trans b⟩
theorem compact_frame {w : World} {g c N : Nat} {zs : List Src} (hN : zs.length = N) (hH : Go.Sort.Holds encStr w g 0 zs.toArray) (hs : N ≤ 9223372036854775807) (hc : N ≤ c) :
    Calls Tryz.prog 43 #[.slice (some ⟨g, 0, none⟩) N c] w fun e w' => (∃ k, e = .returned (.slice (some ⟨g, 0, none⟩) k c)) ∧ FrS w.heap.size (fun k => k = g) w w' := by
  subst hN
  refine (slices_Compact_string g 0 c zs w hH hs hc).mono ?_
  rintro e w' ⟨h1, q, rfl⟩
  exact ⟨⟨_, h1⟩, putRow_frs _ w q g 0 _⟩
/-- What Judge answers at one rule. -/
def JdPost (r : Rl) (l : List Ft) (w : World) (e : Ending) (w' : World) : Prop :=
  Below w.heap.size w w' ∧ (checkE [r] ≠ 0 → e = .returned (.tuple #[.slice none 0 0, .int .i64 (checkE [r])])) ∧ (checkE [r] = 0 → factsE l ≠ 0 → e = .returned (.tuple #[.slice none 0 0, .int .i64 (factsE l)])) ∧
  (checkE [r] = 0 → factsE l = 0 → (truthF 12 l r.2 = 1 → e = .returned (.tuple #[.slice none 0 0, .int .i64 0])) ∧
    (truthF 12 l r.2 = 0 → ∃ (g cap : Nat) (bs : Value), e = .returned (.tuple #[.slice (some ⟨g, 0, none⟩) 1 cap, .int .i64 0]) ∧ g < w'.heap.size ∧ 1 ≤ cap ∧ cap ≤ maxLen ∧ w'.cell? ⟨g, 0, none⟩ = some (.string (Bs r.1)) ∧ w'.cell? ⟨g, 1, none⟩ = some (.bool false) ∧ w'.cell? ⟨g, 2, none⟩ = some bs ∧ SlM w' (fun _ => True) bs (becF 12 r.2 [] l).length (fnames (becF 12 r.2 [] l))) ∧
    (truthF 12 l r.2 = 2 → ∃ (g cap : Nat), e = .returned (.tuple #[.slice (some ⟨g, 0, none⟩) 1 cap, .int .i64 0]) ∧ g < w'.heap.size ∧ 1 ≤ cap ∧ cap ≤ maxLen ∧ w'.cell? ⟨g, 1, none⟩ = some (.bool true)))
set_option maxRecDepth 100000 in
set_option maxHeartbeats 16000000 in
theorem judge_any (r : Rl) (u : V5) (l : List Ft) (b0 : Nat) (fv : Value) (P Q : Nat → Prop) (w : World) (hb0 : Blk w b0 27 #[.string (Bs r.1), u.k, u.t, u.c, u.n, u.d]) (hu : CdV P w u r.2) (hn : r.1.length ≤ maxLen) (hf : FtsM Q w fv l) (hT : Tabs w) :
    Calls Tryz.prog 21 #[.slice (some ⟨b0, 0, none⟩) 1 1, fv] w (JdPost r l w) := by
  have HF := Lib.hid (fun W (hW : Below w.heap.size w W) => facts_any l fv Q W ⟨hf.1.later hW, hf.2⟩)
  have HTr := Lib.hid (fun (h0 : checkE [r] = 0) (h1 : factsE l = 0) W (hW : Below w.heap.size w W) => truth_all 12 r.2 l u fv P Q W ((rules_ok (check_ok h0).2.1 r (by simp)).cd) (hu.later hW) (hf.later hW) (factsE_zero.1 h1))
  have HBc := Lib.hid (fun (h0 : checkE [r] = 0) (h1 : factsE l = 0) W (hW : Below w.heap.size w W) => because_any r.2 u l fv P Q W ((rules_ok (check_ok h0).2.1 r (by simp)).cd) (hu.later hW) (hf.later hW) (factsE_zero.1 h1))
  have HNm := Lib.hid (fun (h0 : checkE [r] = 0) W (hW : Below w.heap.size w W) => names_all 12 r.2 u W.heap.size (.slice none 0 0) [] W ((rules_ok (check_ok h0).2.1 r (by simp)).cd) (((hu.mono (Q := fun b => b < w.heap.size) fun b hb _ => hb).later hW).mono fun b _ hb => Nat.lt_of_lt_of_le hb hW.size) ⟨rfl, .inl ⟨rfl, rfl⟩⟩ (Nat.le_refl _) (by decide))
  have HVl := Lib.hid (fun (h1 : factsE l = 0) nm W (hW : Below w.heap.size w W) => value_any l nm fv Q W (hf.later hW) (factsE_zero.1 h1))
  have HOn := Lib.hid (fun (h0 : checkE [r] = 0) (ht : truthF 12 l r.2 = 2) => open_name 12 r.2 ((rules_ok (check_ok h0).2.1 r (by simp)).cd) ht)
  have HNb := Lib.hid (fun (h0 : checkE [r] = 0) => Nat.le_trans (names_len 12 r.2 ((rules_ok (check_ok h0).2.1 r (by simp)).cd)) (show 8 * 2 ^ 12 ≤ 100000 by decide))
  have HCk := Lib.hid (check_any [r] (.slice (some ⟨b0, 0, none⟩) 1 1) (fun _ => True) w (rls_one hb0 trivial (hu.mono fun _ _ _ => trivial) hn) hT)
  have HBr := Lib.hid hb0
  have HJ : Hid (∀ e w', JdPost r l w e w' = JdPost r l w e w') := fun _ _ => rfl
  obtain ⟨fA, fc, rfl⟩ := hf.1.form
  obtain ⟨tv, dv, vs, rfl, ht, hd, -⟩ := hu.open_
  obtain ⟨A1, c1, rfl⟩ := ht.form
  obtain ⟨A2, c2, rfl⟩ := hd.form
  have hbl := hb0.lt
  have HPo : Hid (∀ e w', Below w.heap.size w w' → (checkE [r] ≠ 0 → e = .returned (.tuple #[.slice none 0 0, .int .i64 (checkE [r])])) → (checkE [r] = 0 → factsE l ≠ 0 → e = .returned (.tuple #[.slice none 0 0, .int .i64 (factsE l)])) →
      (checkE [r] = 0 → factsE l = 0 → (truthF 12 l r.2 = 1 → e = .returned (.tuple #[.slice none 0 0, .int .i64 0])) ∧
    (truthF 12 l r.2 = 0 → ∃ (g cap : Nat) (bs : Value), e = .returned (.tuple #[.slice (some ⟨g, 0, none⟩) 1 cap, .int .i64 0]) ∧ g < w'.heap.size ∧ 1 ≤ cap ∧ cap ≤ maxLen ∧ w'.cell? ⟨g, 0, none⟩ = some (.string (Bs r.1)) ∧ w'.cell? ⟨g, 1, none⟩ = some (.bool false) ∧ w'.cell? ⟨g, 2, none⟩ = some bs ∧ SlM w' (fun _ => True) bs (becF 12 r.2 [] l).length (fnames (becF 12 r.2 [] l))) ∧
    (truthF 12 l r.2 = 2 → ∃ (g cap : Nat), e = .returned (.tuple #[.slice (some ⟨g, 0, none⟩) 1 cap, .int .i64 0]) ∧ g < w'.heap.size ∧ 1 ≤ cap ∧ cap ≤ maxLen ∧ w'.cell? ⟨g, 1, none⟩ = some (.bool true))) → JdPost r l w e w') := fun e w' h1 h2 h3 h4 => ⟨h1, h2, h3, h4⟩
  clear hu hf ht hd hT hb0 HJ
  generalize JdPost r l w = Post at *
  dsimp only [V5.val] at *
  generalize l.length = fn at *
  generalize Bs r.1 = NM at *
  generalize r.2.terms.length = n1 at *
  generalize r.2.kids.length = n2 at *
  generalize r.2.kind = k0 at *
  generalize r.2.cmp = k2 at *
  generalize r.2.than = k3 at *
  generalize checkE [r] = ce at *
  generalize factsE l = fe at *
  go_enter Tryz.func21, Tryz.ntmps21
  go_wp2_with fail
  refine HCk.out.mono ?_
  rintro e w2 ⟨rfl, hb2⟩
  have HB2 := Lib.hid hb2
  have HF2 := Lib.hid (HF.out w2 hb2)
  clear hb2 HCk HF
  by_cases h0 : ce = 0
  case neg =>
    have u0 : (ce != 0) = true := by rw [bne_iff_ne]; exact h0
    have H0 := Lib.hid h0
    clear h0
    go_wp2_with fail
    exact HPo.out _ _ HB2.out (fun _ => rfl) (fun h => absurd h H0.out) (fun h => absurd h H0.out)
  have u0 : (ce != 0) = false := by rw [bne_eq_false_iff_eq]; exact h0
  have H0 := Lib.hid h0
  clear h0
  go_wp2_with fail
  refine HF2.out.mono ?_
  rintro e w3 ⟨rfl, hb3⟩
  have HB3 := Lib.hid (HB2.out.trans (hb3.mono HB2.out.size))
  clear hb3 HF2 HB2
  by_cases h1 : fe = 0
  case neg =>
    have u1 : (fe != 0) = true := by rw [bne_iff_ne]; exact h1
    have H1 := Lib.hid h1
    clear h1
    go_wp2_with fail
    exact HPo.out _ _ HB3.out (fun h => absurd H0.out h) (fun _ _ => rfl) (fun _ h => absurd h H1.out)
  have u1 : (fe != 0) = false := by rw [bne_eq_false_iff_eq]; exact h1
  have HTr2 := Lib.hid (HTr.out H0.out h1)
  have HBc2 := Lib.hid (HBc.out H0.out h1)
  have HNm2 := Lib.hid (HNm.out H0.out)
  have HNb2 := Lib.hid (HNb.out H0.out)
  have HVl2 := Lib.hid (HVl.out h1)
  have HOn2 := Lib.hid (HOn.out H0.out)
  have H1 := Lib.hid h1
  clear h1 HTr HBc HNm HVl HOn HNb
  have hP2 : Hid (∀ e w', Below w.heap.size w w' → ((truthF 12 l r.2 = 1 → e = .returned (.tuple #[.slice none 0 0, .int .i64 0])) ∧
    (truthF 12 l r.2 = 0 → ∃ (g cap : Nat) (bs : Value), e = .returned (.tuple #[.slice (some ⟨g, 0, none⟩) 1 cap, .int .i64 0]) ∧ g < w'.heap.size ∧ 1 ≤ cap ∧ cap ≤ maxLen ∧ w'.cell? ⟨g, 0, none⟩ = some (.string NM) ∧ w'.cell? ⟨g, 1, none⟩ = some (.bool false) ∧ w'.cell? ⟨g, 2, none⟩ = some bs ∧ SlM w' (fun _ => True) bs (becF 12 r.2 [] l).length (fnames (becF 12 r.2 [] l))) ∧
    (truthF 12 l r.2 = 2 → ∃ (g cap : Nat), e = .returned (.tuple #[.slice (some ⟨g, 0, none⟩) 1 cap, .int .i64 0]) ∧ g < w'.heap.size ∧ 1 ≤ cap ∧ cap ≤ maxLen ∧ w'.cell? ⟨g, 1, none⟩ = some (.bool true))) → Post e w') := fun e w' h1 h2 => HPo.out e w' h1 (fun h => absurd H0.out h) (fun _ h => absurd H1.out h) (fun _ _ => h2)
  clear HPo
  have htc := truth_cases 12 l r.2
  generalize truthF 12 l r.2 = t at *
  go_wp2_with fail
  obtain ⟨Fd, hFd⟩ : ∃ Fd : Value → World → Prop, Fd = fun v w' => (t = 1 → v = .slice none 0 0) ∧
    (t = 0 → ∃ (g cap : Nat) (bs : Value), v = .slice (some ⟨g, 0, none⟩) 1 cap ∧ g < w'.heap.size ∧ 1 ≤ cap ∧ cap ≤ maxLen ∧ w'.cell? ⟨g, 0, none⟩ = some (.string NM) ∧ w'.cell? ⟨g, 1, none⟩ = some (.bool false) ∧ w'.cell? ⟨g, 2, none⟩ = some bs ∧ SlM w' (fun _ => True) bs (becF 12 r.2 [] l).length (fnames (becF 12 r.2 [] l))) ∧
    (t = 2 → ∃ (g cap : Nat), v = .slice (some ⟨g, 0, none⟩) 1 cap ∧ g < w'.heap.size ∧ 1 ≤ cap ∧ cap ≤ maxLen ∧ w'.cell? ⟨g, 1, none⟩ = some (.bool true)) := ⟨_, rfl⟩
  have HFd := Lib.hid hFd
  clear hFd
  go_loopw [8, 10, 11, 13, 14, 15, 28, 36, 48] (fun v8 _ _ _ _ _ v28 _ _ wr => True ∧ Below w.heap.size w wr ∧ ((v28 = .int .i64 0 ∧ v8 = .slice none 0 0) ∨ (v28 = .int .i64 1 ∧ Fd v8 wr))) (fun _ _ _ _ _ _ v28 _ _ _ => 1 - (intOf v28).toNat)
  case atStart => exact ⟨trivial, HB3.out, .inl ⟨rfl, rfl⟩⟩
  case round =>
    obtain ⟨-, hb, hor⟩ := hrel
    have HB := Lib.hid hb
    rcases hor with ⟨rfl, rfl⟩ | ⟨rfl, hfd⟩
    case inr =>
      have HFv := Lib.hid hfd
      clear hfd
      go_wp2_with fail
      rw [HFd.out] at HFv
      refine hP2.out _ _ HB.out ⟨fun h => ?_, fun h => ?_, fun h => ?_⟩
      · rw [HFv.out.1 h]; rfl
      · obtain ⟨g, cap, bs, h1, h2⟩ := HFv.out.2.1 h
        exact ⟨g, cap, bs, by rw [h1]; rfl, h2⟩
      · obtain ⟨g, cap, h1, h2⟩ := HFv.out.2.2 h
        exact ⟨g, cap, by rw [h1]; rfl, h2⟩
    have HBr1 := Lib.hid (HBr.out.below hb hbl)
    obtain ⟨q0, q1, q2, q3, q4, q5⟩ := b6_cells HBr1.out
    have ql := HBr1.out.lt
    have hba : Below wr.heap.size wr (wr.alloc (.cells #[.string NM, .int .i64 k0, .slice A1 n1 c1, .int .i64 k2, .int .i64 k3, .slice A2 n2 c2] 27)) := (Below.refl _ _).alloc (Nat.le_refl _) _
    have HBa := Lib.hid (hb.trans (hba.mono hb.size))
    have HTa := Lib.hid (Blk.new wr 27 #[.string NM, .int .i64 k0, .slice A1 n1 c1, .int .i64 k2, .int .i64 k3, .slice A2 n2 c2])
    have HTr3 := Lib.hid (HTr2.out _ HBa.out)
    have hsza : (wr.alloc (.cells #[.string NM, .int .i64 k0, .slice A1 n1 c1, .int .i64 k2, .int .i64 k3, .slice A2 n2 c2] 27)).heap.size = wr.heap.size + 1 := by simp
    have hsw := hb.size
    clear hba
    go_upto_region 11 with (fail)
    generalize wr.alloc (.cells #[.string NM, .int .i64 k0, .slice A1 n1 c1, .int .i64 k2, .int .i64 k3, .slice A2 n2 c2] 27) = w4 at *
    generalize wr.heap.size = T at *
    obtain ⟨x0, x1, x2, x3, x4, x5⟩ := b6_cells HTa.out
    have xl := HTa.out.lt
    clear q0 q1 q2 q3 q4 q5 ql
    go_wp2_with fail
    refine HTr3.out.mono ?_
    rintro e w5 ⟨rfl, hb5⟩
    have hs5 := hb5.size
    have HB5 := Lib.hid (HBa.out.trans (hb5.mono HBa.out.size))
    have HT5 := Lib.hid (HTa.out.below hb5 HTa.out.lt)
    clear hb5 HTr3 HTa HBa x0 x1 x2 x3 x4 x5 xl
    rcases htc with rfl | rfl | rfl
    · obtain ⟨x0, x1, x2, x3, x4, x5⟩ := b6_cells HT5.out
      have xl := HT5.out.lt
      have HBe := Lib.hid (HBc2.out w5.drew (HB5.out.trans ((Below.refl _ _).drew)))
      have hS0 : (fun w' : World => w'.cell? ⟨T, 0, none⟩ = some (.string NM) ∧ w'.cell? ⟨T, 1, none⟩ = some (.int .i64 k0) ∧ w'.cell? ⟨T, 2, none⟩ = some (.slice A1 n1 c1) ∧ w'.cell? ⟨T, 3, none⟩ = some (.int .i64 k2) ∧ w'.cell? ⟨T, 4, none⟩ = some (.int .i64 k3) ∧ w'.cell? ⟨T, 5, none⟩ = some (.slice A2 n2 c2)) w5.drew := ⟨x0, x1, x2, x3, x4, x5⟩
      go_wp2_with fail
      refine wp_region_tail (fun w' : World => w'.cell? ⟨T, 0, none⟩ = some (.string NM) ∧ w'.cell? ⟨T, 1, none⟩ = some (.int .i64 k0) ∧ w'.cell? ⟨T, 2, none⟩ = some (.slice A1 n1 c1) ∧ w'.cell? ⟨T, 3, none⟩ = some (.int .i64 k2) ∧ w'.cell? ⟨T, 4, none⟩ = some (.int .i64 k3) ∧ w'.cell? ⟨T, 5, none⟩ = some (.slice A2 n2 c2)) 9 (by kernel_rfl) (by kernel_rfl) hS0 (fun hHeld => ?_)
      refine wpAnyD_take 0 (v := ?_) rfl (by kernel_rfl) (by kernel_rfl) (by kernel_rfl) (fun _ _ _ h => h) hHeld (Or.inl ⟨by rfl, ?_⟩) ?_
      rotate_left
      · intro w' hw'; obtain ⟨h0, h1, h2, h3, h4, h5⟩ := hw'; go_simp; try with_reducible rfl
      try simp only [Act.put, List.setIfInBounds_toArray, List.set_cons_zero, List.set_cons_succ]
      refine wpAnyD_take 1 (v := ?_) rfl (by kernel_rfl) (by kernel_rfl) (by kernel_rfl) (fun _ _ _ h => h) hHeld (Or.inl ⟨by rfl, ?_⟩) ?_
      rotate_left
      · intro w' hw'; obtain ⟨h0, h1, h2, h3, h4, h5⟩ := hw'; go_simp; try with_reducible rfl
      try simp only [Act.put, List.setIfInBounds_toArray, List.set_cons_zero, List.set_cons_succ]
      refine wpAnyD_take 2 (v := ?_) rfl (by kernel_rfl) (by kernel_rfl) (by kernel_rfl) (fun _ _ _ h => h) hHeld (Or.inl ⟨by rfl, ?_⟩) ?_
      rotate_left
      · intro w' hw'; obtain ⟨h0, h1, h2, h3, h4, h5⟩ := hw'; go_simp; try with_reducible rfl
      try simp only [Act.put, List.setIfInBounds_toArray, List.set_cons_zero, List.set_cons_succ]
      refine wpAnyD_take 3 (v := ?_) rfl (by kernel_rfl) (by kernel_rfl) (by kernel_rfl) (fun _ _ _ h => h) hHeld (Or.inl ⟨by rfl, ?_⟩) ?_
      rotate_left
      · intro w' hw'; obtain ⟨h0, h1, h2, h3, h4, h5⟩ := hw'; go_simp; try with_reducible rfl
      try simp only [Act.put, List.setIfInBounds_toArray, List.set_cons_zero, List.set_cons_succ]
      refine wpAnyD_take 4 (v := ?_) rfl (by kernel_rfl) (by kernel_rfl) (by kernel_rfl) (fun _ _ _ h => h) hHeld (Or.inl ⟨by rfl, ?_⟩) ?_
      rotate_left
      · intro w' hw'; obtain ⟨h0, h1, h2, h3, h4, h5⟩ := hw'; go_simp; try with_reducible rfl
      try simp only [Act.put, List.setIfInBounds_toArray, List.set_cons_zero, List.set_cons_succ]
      refine wpAnyD_take 5 (v := ?_) rfl (by kernel_rfl) (by kernel_rfl) (by kernel_rfl) (fun _ _ _ h => h) hHeld (Or.inl ⟨by rfl, ?_⟩) ?_
      rotate_left
      · intro w' hw'; obtain ⟨h0, h1, h2, h3, h4, h5⟩ := hw'; go_simp; try with_reducible rfl
      try simp only [Act.put, List.setIfInBounds_toArray, List.set_cons_zero, List.set_cons_succ]
      refine wpAnyD_ready [6] (by kernel_rfl) ?_
      refine AllReadyD.cons rfl (fun KK hK => ?_) AllReadyD.nil
      go_simp
      refine HBe.out.mono ?_
      rintro e w9 ⟨bs, rfl, hown9, hb9⟩
      have hb9' : Below w5.heap.size w5 w9 := (Below.refl w5.heap.size w5).drew.trans hb9
      have HB9 := Lib.hid (HB5.out.trans (hb9'.mono HB5.out.size))
      have hT9 : Blk w9 T 27 #[.string NM, .int .i64 k0, .slice A1 n1 c1, .int .i64 k2, .int .i64 k3, .slice A2 n2 c2] := HT5.out.below hb9' xl
      have hg9 : (fun w' : World => w'.cell? ⟨T, 0, none⟩ = some (.string NM) ∧ w'.cell? ⟨T, 1, none⟩ = some (.int .i64 k0) ∧ w'.cell? ⟨T, 2, none⟩ = some (.slice A1 n1 c1) ∧ w'.cell? ⟨T, 3, none⟩ = some (.int .i64 k2) ∧ w'.cell? ⟨T, 4, none⟩ = some (.int .i64 k3) ∧ w'.cell? ⟨T, 5, none⟩ = some (.slice A2 n2 c2)) w9 := b6_cells hT9
      obtain ⟨Ab, cb, rfl⟩ := own_form hown9
      have HO9 := Lib.hid hown9
      refine hK.out _ _ hg9 (fun hHeld => ?_)
      refine wpAnyD_ready [7] (by kernel_rfl) ?_
      refine AllReadyD.cons rfl (fun KK hK => ?_) AllReadyD.nil
      go_simp
      refine hK.out _ _ hg9 (fun hHeld => ?_)
      refine wpAnyD_ready [8] (by kernel_rfl) ?_
      refine AllReadyD.cons rfl (fun KK hK => ?_) AllReadyD.nil
      go_simp
      have hg10 : (fun w' : World => w'.cell? ⟨T, 0, none⟩ = some (.string NM) ∧ w'.cell? ⟨T, 1, none⟩ = some (.int .i64 k0) ∧ w'.cell? ⟨T, 2, none⟩ = some (.slice A1 n1 c1) ∧ w'.cell? ⟨T, 3, none⟩ = some (.int .i64 k2) ∧ w'.cell? ⟨T, 4, none⟩ = some (.int .i64 k3) ∧ w'.cell? ⟨T, 5, none⟩ = some (.slice A2 n2 c2)) (w9.alloc (.cells #[.string NM, .bool false, .slice Ab (becF 12 r.2 [] l).length cb] 58)) := b6_cells (hT9.alloc (.cells #[.string NM, .bool false, .slice Ab (becF 12 r.2 [] l).length cb] 58))
      refine hK.out _ _ hg10 (fun hHeld => ?_)
      refine wpAnyD_done (by kernel_rfl) ?_
      simp only [List.drop_succ_cons, List.drop_zero]
      have HSb := Lib.hid ((SlM.of_own HO9.out).mono (ok' := fun _ => True) fun _ _ _ => trivial)
      clear hg9 hg10 hHeld hK hS0 hT9 hown9 hb9 x0 x1 x2 x3 x4 x5 HO9
      generalize (becF 12 r.2 [] l).length = NB at *
      go_wp2_with (at_builtin; go_must (refine wpList_pushk eFd rfl (.tmp 38) (.tmp 46) rfl 0 (.slice none 0 0) 0 [] rfl ⟨rfl, .inl ⟨rfl, rfl⟩⟩ ⟨w9.heap.size, 0, none⟩ 1 [.string NM, .bool false, .slice Ab NB cb] rfl rfl (news_new _ _ _ _ rfl) (by simp [Value.oneCell']) (by omega) (by omega) (by omega) (by omega) ?_); go_must (intro v' w11 hown11 hgr11 hk11; have HO11 := Lib.hid hown11; have HGr11 := Lib.hid hgr11; obtain ⟨A11, c11, rfl⟩ := own_form hown11; clear hown11 hgr11 hk11))
      have hb11 : Below w9.heap.size w9 w11 := ((Below.refl w9.heap.size w9).alloc (Nat.le_refl _) _).trans ((below_of_grown HGr11.out).mono (by simp))
      obtain ⟨-, hcap1, hcap2⟩ := (SlM.of_own HO11.out).caps
      obtain ⟨g, cap, ev, -, hgl, hcell, -⟩ := own_cells HO11.out (by omega)
      injection ev with e1 _ e3
      subst e1
      subst e3
      have HFn : Hid (Fd (.slice (some ⟨g, 0, none⟩) 1 c11) w11) := by
        unfold Hid
        rw [HFd.out]
        exact ⟨fun h => absurd h (by decide), fun _ => ⟨g, c11, _, rfl, hgl, hcap1, hcap2, hcell 0 _ rfl, hcell 1 _ rfl, hcell 2 _ rfl, HSb.out.later hb11⟩, fun h => absurd h (by decide)⟩
      have HB11 := Lib.hid (HB9.out.trans (hb11.mono HB9.out.size))
      clear hb11 hcell
      go_wp2_with fail
      go_roundw
      case rel => exact ⟨trivial, HB11.out, .inr ⟨rfl, HFn.out⟩⟩
      case measure => simp [intOf]
    · obtain ⟨x0, x1, x2, x3, x4, x5⟩ := b6_cells HT5.out
      have xl := HT5.out.lt
      have HFn : Hid (Fd (.slice none 0 0) w5) := by
        unfold Hid
        rw [HFd.out]
        exact ⟨fun _ => rfl, fun h => absurd h (by decide), fun h => absurd h (by decide)⟩
      go_wp2_with fail
      go_roundw
      case rel => exact ⟨trivial, HB5.out, .inr ⟨rfl, HFn.out⟩⟩
      case measure => simp [intOf]
    · obtain ⟨x0, x1, x2, x3, x4, x5⟩ := b6_cells HT5.out
      have xl := HT5.out.lt
      have hba6 : Below w5.heap.size w5 (w5.alloc (.cells #[.string NM, .bool true, .slice none 0 0] 58)) := (Below.refl _ _).alloc (Nat.le_refl _) _
      have HB6 := Lib.hid (HB5.out.trans (hba6.mono HB5.out.size))
      have HF6 := Lib.hid (Blk.new w5 58 #[.string NM, .bool true, .slice none 0 0])
      have hsz6 : (w5.alloc (.cells #[.string NM, .bool true, .slice none 0 0] 58)).heap.size = w5.heap.size + 1 := by simp
      have HNx := Lib.hid (HNm2.out _ HB6.out)
      obtain ⟨nm0, hnm0, hnv0⟩ := HOn2.out rfl
      have HNb0 := Lib.hid (HNb2.out)
      have HNi := Lib.hid hnm0
      have HNv := Lib.hid hnv0
      have HT6 := Lib.hid (HT5.out.below hba6 xl)
      clear hba6 hnm0 hnv0
      rw [List.nil_append] at HNx
      generalize namesF 12 r.2 = NL at *
      have HNx := Lib.hid HNx.out
      go_upto_region 16 with (fail)
      generalize w5.alloc (.cells #[.string NM, .bool true, .slice none 0 0] 58) = w6 at *
      obtain ⟨y0, y1, y2, y3, y4, y5⟩ := b6_cells HT6.out
      have yl := HT6.out.lt
      clear x0 x1 x2 x3 x4 x5 xl
      go_wp2_with fail
      refine HNx.out.mono ?_
      rintro e w7 ⟨nv, rfl, hown7, hf7, -⟩
      have hb7 : Below w6.heap.size w6 w7 := hf7.below (Nat.le_refl _) (fun k e => by cases e)
      have HB7 := Lib.hid (HB6.out.trans (hb7.mono HB6.out.size))
      have HF7 := Lib.hid (HF6.out.below hb7 (by omega))
      have hs7 := hb7.size
      have HNrow := Lib.hid (SlM.of_own hown7)
      obtain ⟨An, cn, rfl⟩ := own_form hown7
      generalize w5.heap.size = F at *
      have hFl : F < w7.heap.size := HF7.out.lt
      have hNc := HNrow.out.caps
      clear hown7 hf7 hb7 HNx HT6 HF6 y0 y1 y2 y3 y4 y5 yl
      obtain ⟨nN, hnN⟩ : ∃ nN, nN = NL.length := ⟨_, rfl⟩
      rw [← hnN] at HNrow hNc
      have hN63 : nN ≤ 9223372036854775807 := Nat.le_trans hNc.2.1 hNc.2.2
      rw [← hnN]
      have HNb : Hid (nN ≤ 100000) := by unfold Hid; rw [hnN]; exact HNb0.out
      have HnN := Lib.hid hnN
      clear hnN
      go_wp2_with fail
      go_loopw [13, 14, 15, 57] (fun _ _ _ v57 wz => True ∧ ∃ (j N : Nat) (A : Option Addr) (c : Nat) (Lq : List Src), j ≤ nN ∧ v57 = .int .i64 j ∧ Blk wz F 58 #[.string NM, .bool true, .slice A N c] ∧ wz.ownsRow w7.heap.size 9 1 (.slice A N c) N (snames Lq) ∧ FrS w7.heap.size (fun k => k = F) w7 wz ∧ N = Lq.length ∧ Lq = (NL.take j).filter (fun s => (factV l s).isNone) ∧ N ≤ j) (fun _ _ _ v57 _ => nN - (intOf v57).toNat)
      case atStart => exact ⟨trivial, 0, 0, none, 0, [], Nat.zero_le _, rfl, HF7.out, ⟨rfl, .inl ⟨rfl, rfl⟩⟩, FrS.refl _ _ _, rfl, rfl, Nat.le_refl _⟩
      case round =>
        obtain ⟨-, j, N, A, c, Lq, hj, rfl, hFk, hown, hfr, hNq, hLq, hNj⟩ := hrel
        have HFk := Lib.hid hFk
        have HOw := Lib.hid hown
        have HFr := Lib.hid hfr
        have HNq := Lib.hid hNq
        have HLq := Lib.hid hLq
        have hs8 := hfr.size
        have HBw := Lib.hid (HB7.out.trans (hfr.below (B := w.heap.size) (by omega) (fun k e => by omega)))
        clear hown hNq hLq
        by_cases hlt : j < nN
        · have t0 : decide ((j : Int) < (nN : Int)) = true := by simp; omega
          obtain ⟨bn, on, rfl, hPn, hbn, hcn⟩ := HNrow.out.addr (by omega)
          have hjN : j < NL.length := by rw [← HnN.out]; exact hlt
          have q0 : wr.cell? ⟨bn, on + j, none⟩ = some (.string (Bs (NL[j]'hjN))) := by
            have h1 := hcn j (.string (Bs (NL[j]'hjN))) (by unfold snames; rw [List.getElem?_map, List.getElem?_eq_getElem hjN]; rfl)
            exact (World.cell?_of_block (w := w7) (a := ⟨bn, on + j, none⟩) (hfr.block bn hbn (by have := hPn.2; omega))).trans h1
          have qbl := Nat.lt_of_lt_of_le hbn hs8
          have HVj := Lib.hid (HVl2.out (NL[j]'hjN) wr HBw.out)
          have HTk : Hid (NL.take (j + 1) = NL.take j ++ [NL[j]'hjN]) := by
            unfold Hid
            rw [List.take_add_one, List.getElem?_eq_getElem hjN]; rfl
          clear hcn hPn hbn hFk hfr
          generalize NL[j]'hjN = nmj at *
          generalize hVV : factV l nmj = VV at *
          have HVV := Lib.hid hVV
          clear hVV
          generalize hNJ : Bs nmj = NJ at *
          have HNJ := Lib.hid hNJ
          clear hNJ
          go_wp2_with fail
          refine HVj.out.mono ?_
          rintro e w8 ⟨⟨x, bb, rfl, hV⟩, hb8⟩
          have hs9 := hb8.size
          have HF8 := Lib.hid (HFk.out.below hb8 HFk.out.lt)
          have HO8 := Lib.hid (own_below HOw.out hb8)
          have HFr8 := Lib.hid (HFr.out.trans (FrS.of_below hb8 hs8))
          clear hb8 HVj q0
          cases bb with
          | true =>
            have HLn : Hid (Lq = (NL.take (j + 1)).filter (fun s => (factV l s).isNone)) := by
              unfold Hid
              rw [HTk.out, List.filter_append, ← HLq.out, List.filter_cons_of_neg (by rw [HVV.out, hV]; simp)]
              simp
            have hj1 : j + 1 ≤ nN := hlt
            have hN1 : N ≤ j + 1 := by omega
            clear hV
            go_wp2_with fail
            go_roundw
            case rel => exact ⟨trivial, j + 1, N, A, c, Lq, hj1, by go_num, HF8.out, HO8.out, HFr8.out, HNq.out, HLn.out, hN1⟩
            case measure => simp [intOf]; omega
          | false =>
            have HLn : Hid (Lq ++ [nmj] = (NL.take (j + 1)).filter (fun s => (factV l s).isNone)) := by
              unfold Hid
              rw [HTk.out, List.filter_append, ← HLq.out, List.filter_cons_of_pos (by rw [HVV.out, hV]; simp)]
              simp
            have hj1 : j + 1 ≤ nN := hlt
            have hN1 : N + 1 ≤ j + 1 := by omega
            have hNb : N ≤ 100000 := by have := HNb.out; omega
            have HSn : Hid (snames Lq ++ [.string NJ] = snames (Lq ++ [nmj])) := by
              unfold Hid
              rw [← HNJ.out]
              simp [snames]
            have z2 : w8.cell? ⟨F, 2, none⟩ = some (.slice A N c) := by simpa using HF8.out.cell 2
            have HOb := Lib.hid (own_below HO8.out ((Below.refl w8.heap.size w8).alloc (Nat.le_refl _) (.cells #[.string NJ] 9)))
            have hol : Hid (∀ k, (Value.slice A N c).ownBlock = some k → w7.heap.size ≤ k) := fun k hk => (own_lt HO8.out k hk).1
            clear hV
            go_wp2_with (at_builtin; go_must (refine wpList_push eSt rfl (.tmp 70) (.tmp 72) rfl w7.heap.size (.slice A N c) N _ rfl HOb.out ⟨w8.heap.size, 0, none⟩ 1 (.string NJ) rfl (by have h := (Blk.new w8 9 #[.string NJ]).cell 0; exact h) rfl (by omega) (by omega) (by simp; omega) ?_); go_must (intro v' w11 hown11 hgr11 hk11; have HO11 := Lib.hid hown11; have HGr11 := Lib.hid hgr11; have HK11 := Lib.hid hk11; have hgk := ((HF8.out.alloc (.cells #[.string NJ] 9)).grown hgr11 (fun e => by have := hol.out _ e.symm; omega)); have h1c := hgk.cell 2; have h1f := hgk.frozen 2; simp at h1c; obtain ⟨A11, c11, rfl⟩ := own_form hown11; have HGk2 := Lib.hid (hgk.put 2 (.slice A11 (N + 1) c11)); clear hown11 hgr11 hk11 hgk))
            have hfn : FrS w7.heap.size (fun k => k = F) w7 (w11.setCell ⟨F, 2, none⟩ (.slice A11 (N + 1) c11)) := ((HFr8.out.alloc (by omega) (.cells #[.string NJ] 9)).grownB HGr11.out (by simp; omega) (fun k hk => .inl (hol.out k hk))).put (p := ⟨F, 2, none⟩) (.inr rfl) _
            have hfar : ∀ k, (Value.slice A11 (N + 1) c11).ownBlock = some k → w7.heap.size ≤ k := fun k hk => (own_lt HO11.out k hk).1
            have HXf := Lib.hid hfn
            have HXb : Hid (Blk (w11.setCell ⟨F, 2, none⟩ (.slice A11 (N + 1) c11)) F 58 #[.string NM, .bool true, .slice A11 (N + 1) c11]) := by
              have := HGk2.out
              simpa [Hid] using this
            have HXo : Hid ((w11.setCell ⟨F, 2, none⟩ (.slice A11 (N + 1) c11)).ownsRow w7.heap.size 9 1 (.slice A11 (N + 1) c11) (N + 1) (snames (Lq ++ [nmj]))) := by
              unfold Hid
              rw [← HSn.out]
              exact own_setCell HO11.out (.inl (by show F < w7.heap.size; exact hFl)) _
            clear hfn hfar
            go_wp2_with fail
            go_roundw
            case rel => exact ⟨trivial, j + 1, N + 1, A11, c11, Lq ++ [nmj], hj1, by go_num, HXb.out, HXo.out, HXf.out, by rw [List.length_append, ← HNq.out]; rfl, HLn.out, hN1⟩
            case measure => simp [intOf]; omega
        · have t0 : decide ((j : Int) < (nN : Int)) = false := by simp; omega
          have hjn : j = nN := by omega
          have hmem : nm0 ∈ Lq := by
            rw [HLq.out, hjn, HnN.out, List.take_length]
            exact List.mem_filter.2 ⟨HNi.out, by rw [HNv.out]; rfl⟩
          have hpos : 0 < Lq.length := List.length_pos_iff.2 (fun e => by rw [e] at hmem; cases hmem)
          obtain ⟨g0, c0, ev, -⟩ := own_cells HOw.out (by rw [HNq.out]; exact hpos)
          injection ev with e1 _ e3
          subst e1
          subst e3
          obtain ⟨hH, hgl, hgb, hNc1, hNc2⟩ := holds_own (ss := Lq) (by rw [← HNq.out]; exact HOw.out) hpos
          have hN0 : N ≤ 100000 := by have := HNb.out; omega
          have HSo := Lib.hid (sort_frame (c := c) HNq.out hH hgl (by rw [← HNq.out]; omega))
          have z2 : wr.cell? ⟨F, 2, none⟩ = some (.slice (some ⟨g0, 0, none⟩) N c) := by simpa using hFk.cell 2
          have hgF : g0 ≠ F := by omega
          have hcN : N ≤ c := by rw [HNq.out]; exact hNc1
          have hFl2 := HFk.out.lt
          clear hH hmem hjn hfr hFk
          generalize wr = wm at *
          go_wp2_with fail
          refine HSo.out.mono ?_
          rintro e w8 ⟨rfl, hf8, zs, hzl, hzh⟩
          have hs8' := hf8.size
          have HF8 := Lib.hid (hf8.blk HFk.out (by omega) (by omega))
          have HBw8 := Lib.hid (HBw.out.trans ((hf8.below (B := w.heap.size) (by omega) (fun k e => by omega))))
          have HCm := Lib.hid (compact_frame (c := c) hzl hzh (by omega) hcN)
          have z28 : w8.cell? ⟨F, 2, none⟩ = some (.slice (some ⟨g0, 0, none⟩) N c) := by simpa using HF8.out.cell 2
          clear hf8 hzh HSo z2
          go_wp2_with fail
          refine HCm.out.mono ?_
          rintro e w9 ⟨⟨kk, rfl⟩, hf9⟩
          have hs9' := hf9.size
          have HF9 := Lib.hid (hf9.blk HF8.out (by omega) (by omega))
          have HBw9 := Lib.hid (HBw8.out.trans ((hf9.below (B := w.heap.size) (by omega) (fun k e => by omega))))
          have hF9l := HF9.out.lt
          obtain ⟨v0, v1, v2⟩ : w9.cell? ⟨F, 0, none⟩ = some (.string NM) ∧ w9.cell? ⟨F, 1, none⟩ = some (.bool true) ∧ w9.cell? ⟨F, 2, none⟩ = some (.slice (some ⟨g0, 0, none⟩) N c) := ⟨by simpa using HF9.out.cell 0, by simpa using HF9.out.cell 1, by simpa using HF9.out.cell 2⟩
          have vf := HF9.out.frozen 2
          clear hf9 HCm z28
          go_wp2_with (at_builtin; go_must (refine wpList_pushk eFd rfl (.tmp 83) (.tmp 85) rfl 0 (.slice none 0 0) 0 [] rfl ⟨rfl, .inl ⟨rfl, rfl⟩⟩ ⟨w9.heap.size, 0, none⟩ 1 [.string NM, .bool true, .slice (some ⟨g0, 0, none⟩) kk c] rfl rfl (news_new _ _ _ _ (by simp [World.setCell])) (by simp [Value.oneCell']) (by omega) (by omega) (by omega) (by omega) ?_); go_must (intro v' w11 hown11 hgr11 hk11; have HO11 := Lib.hid hown11; have HGr11 := Lib.hid hgr11; obtain ⟨A11, c11, rfl⟩ := own_form hown11; clear hown11 hgr11 hk11))
          have hb11 : FrS w9.heap.size (fun k => k = F) w9 w11 := (((FrS.refl w9.heap.size (fun k => k = F) w9).put (p := ⟨F, 2, none⟩) (.inr rfl) (.slice (some ⟨g0, 0, none⟩) kk c)).alloc (by simp [World.setCell]) _).grownB HGr11.out (by simp [World.setCell]) (fun k hk => by cases hk)
          obtain ⟨-, hcap1, hcap2⟩ := (SlM.of_own HO11.out).caps
          obtain ⟨g, cap, ev2, -, hgl2, hcell, -⟩ := own_cells HO11.out (by omega)
          injection ev2 with f1 _ f3
          subst f1
          have HFn : Hid (Fd (.slice (some ⟨g, 0, none⟩) 1 c11) w11) := by
            unfold Hid
            rw [HFd.out]
            exact ⟨fun h => absurd h (by decide), fun h => absurd h (by decide), fun _ => ⟨g, c11, rfl, hgl2, hcap1, hcap2, hcell 1 _ rfl⟩⟩
          have HB11 := Lib.hid (HBw9.out.trans (hb11.below (B := w.heap.size) (by omega) (fun k e => by omega)))
          clear hb11 hcell v0 v1 v2 vf f3
          go_wp2_with fail
          go_roundw
          case rel => exact ⟨trivial, HB11.out, .inr ⟨rfl, HFn.out⟩⟩
          case measure => simp [intOf]
end Go.Proofs.YtonmpealebggoaaGreatDoor
