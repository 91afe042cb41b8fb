/- The walk of show at a comparison. The walk of show, of every kind. -/
import Derived.Test.YtonmpealebggoaaGreatDoorPrpSho
namespace Go.Proofs.YtonmpealebggoaaGreatDoor
open Go.RowKit Pr
theorem termsS_snoc : ∀ (l : List Tm) (k : Nat) (t : Tm), termsS k (l ++ [t]) = termsS k l ++ termS (k + l.length) t
  | [], k, t => by simp [termsS]
  | x :: r, k, t => by
    have := termsS_snoc r (k + 1) t
    simp only [List.cons_append, termsS, this, List.append_assoc, List.length_cons]
    rw [show k + 1 + r.length = k + (r.length + 1) by omega]
theorem terms_step {l : List Tm} {i : Nat} (hi : i < l.length) : termsS 0 (l.take (i + 1)) = termsS 0 (l.take i) ++ termS i (l.getD i tm0) := by
  have h2 : l.take (i + 1) = l.take i ++ [l.getD i tm0] := by rw [List.take_add_one, List.getD_eq_getElem?_getD, List.getElem?_eq_getElem hi]; rfl
  rw [h2, termsS_snoc]
  simp [Nat.min_eq_left (Nat.le_of_lt hi)]
set_option maxRecDepth 100000 in
set_option maxHeartbeats 4000000 in
theorem show_cmp (f : Nat) (o : Cd) (v : V5) (P : Nat → Prop) (least : Nat) (w : World) (h : CdV P w v o) (hk : o.kind = 0) (hv : compareE o = 0) (hT : Tabs w) :
    Calls Tryz.prog 50 #[v.val, .int .i64 (least : Int)] w fun e w' => e = .returned (.string (Bs (showF (f + 1) o least))) ∧ Below w.heap.size w w' := by
  obtain ⟨tv, dv, vs, rfl, ht, hd, -, -, -, -⟩ := h.open_
  obtain ⟨-, -, hc0, hc5, hn0, hn1, hto, htl⟩ := compare_parts hv
  have hs := show_bare f o least
  have hbare : bareS f o = cmpS o := by unfold bareS; rw [if_pos hk]
  rw [hbare] at hs
  unfold cmpS at hs
  generalize showF (f + 1) o least = E at *
  clear h hv hbare
  obtain ⟨k0, ts, c, n, ks⟩ := o
  dsimp only [Cd.kind, Cd.terms, Cd.cmp, Cd.than, Cd.kids, V5.val] at *
  subst hk
  obtain ⟨tA, tc, rfl⟩ := ht.form
  obtain ⟨dA, dc, rfl⟩ := hd.form
  have HM := Lib.hid ht
  have HSt := Lib.hid (fun i (hi : i < ts.length) => terms_step hi)
  have HOk := Lib.hid (fun i (hi : i < ts.length) => (hto _ (by rw [List.getD_eq_getElem?_getD, List.getElem?_eq_getElem hi]; exact List.getElem_mem _) : TmOk (ts.getD i tm0)))
  have HSl := Lib.hid (fun i => (Nat.le_trans (terms_short (ts.take i) 0 fun t ht => hto t (List.mem_of_mem_take ht)) (Nat.mul_le_mul_left 41 (by rw [List.length_take]; omega)) : (termsS 0 (ts.take i)).length ≤ 41 * 8))
  have HT0 : Hid (termsS 0 (ts.take ts.length) = termsS 0 ts) := by unfold Hid; rw [List.take_length]
  clear ht hd hto
  generalize htn : ts.length = tn at *
  have HN := Lib.hid htn
  clear htn
  generalize ks.length = dn at *
  have HB0 := Lib.hid ((Below.refl w.heap.size w).alloc (Nat.le_refl _) (.cells #[Value.int .i64 0, Value.slice tA tn tc, Value.int .i64 c, Value.int .i64 n, Value.slice dA dn dc] 25))
  have HTb := Lib.hid (fun W (hb : Below w.heap.size w W) => hT.later hb)
  clear hT
  go_enter Tryz.func50, Tryz.ntmps50
  go_wp2_with fail
  go_loopw [5, 6, 7, 8, 9, 29] (fun v5 _ _ _ _ v29 wr => ∃ i : Nat, i ≤ tn ∧ v29 = .int .i64 i ∧ v5 = .string (Bs (termsS 0 (ts.take i))) ∧ Below (w.alloc (.cells #[Value.int .i64 0, Value.slice tA tn tc, Value.int .i64 c, Value.int .i64 n, Value.slice dA dn dc] 25)).heap.size (w.alloc (.cells #[Value.int .i64 0, Value.slice tA tn tc, Value.int .i64 c, Value.int .i64 n, Value.slice dA dn dc] 25)) wr) (fun _ _ _ _ _ v29 _ => tn - (intOf v29).toNat)
  case atStart => exact ⟨0, Nat.zero_le _, rfl, rfl, Below.refl _ _⟩
  case round =>
    obtain ⟨i, hi, rfl, rfl, hb⟩ := hrel
    have HB := Lib.hid hb
    by_cases hlt : i < tn
    · have t0 : decide ((i : Int) < (tn : Int)) = true := by simp; omega
      obtain ⟨b, off, rfl, -, hbl, hcl⟩ := tm_at (by rw [HN.out]; exact HM.out) (by rw [HN.out]; omega)
      obtain ⟨q0, q1⟩ := hcl i (by rw [HN.out]; exact hlt)
      have hbw := HB0.out.trans (hb.mono HB0.out.size)
      replace q0 := (hbw.cell (p := ⟨b, off + i * 2, none⟩) hbl).trans q0
      replace q1 := (hbw.cell (p := ⟨b, off + i * 2 + 1, none⟩) hbl).trans q1
      have hbl2 := Nat.lt_of_lt_of_le hbl hbw.size
      have HS := Lib.hid (HSt.out i hlt)
      have hok := HOk.out i hlt
      have hSl := HSl.out i
      have HBw := Lib.hid hbw
      clear hcl hb hbw
      generalize ts.getD i tm0 = x at *
      generalize termsS 0 (ts.take i) = S at *
      obtain ⟨k, m⟩ := x
      have hnm := name_short hok.nm
      have klo := hok.lo
      have khi := hok.hi
      have kne := hok.ne
      dsimp only at q0 q1 hnm klo khi kne
      clear hok
      have HBa := Lib.hid ((Below.refl wr.heap.size wr).alloc (Nat.le_refl _) (Obj.cells #[Value.int .i64 k, Value.string (Bs m)] 80))
      by_cases kn : k < 0
      · have u1 : decide (k < 0) = true := by simp; omega
        by_cases i0 : i = 0
        · have u2 : decide (0 < i) = false := by simp; omega
          have u4 : ((i : Int) == 0) = true := by rw [beq_iff_eq]; omega
          by_cases k1 : -k = 1
          · have u3 : (-k != 1) = false := by simp; omega
            have hab : ((k.natAbs : Nat) : Int) = -k := by omega
            have e : termS i (k, m) = [45] ++ [] ++ m := by unfold termS; dsimp only; rw [if_neg (show ¬ 0 < i by omega), if_pos kn, if_neg (show ¬ k.natAbs ≠ 1 by omega)]
            have HF := Lib.hid (HS.out.trans (by rw [e]))
            clear i0 k1 e hab
            go_wp2_with fail
            go_quiet (fail)
            have HX := Lib.hid (below_drewN HBa.out nq)
            have hcx : ((wr.alloc (Obj.cells #[Value.int .i64 k, Value.string (Bs m)] 80)).drewN nq).cell? ⟨wr.heap.size, 1, none⟩ = some (.string (Bs m)) := World.cell?_alloc_at _ _ _ _ rfl
            have hlx : wr.heap.size < ((wr.alloc (Obj.cells #[Value.int .i64 k, Value.string (Bs m)] 80)).drewN nq).heap.size := by simp
            generalize (wr.alloc (Obj.cells #[Value.int .i64 k, Value.string (Bs m)] 80)).drewN nq = wx at *
            go_wp2_with fail
            refine (minus_none _ (HTb.out _ (HBw.out.trans (HX.out.mono HBw.out.size)))).mono ?_; rintro e w5 ⟨rfl, hb5⟩
            have HX5 := Lib.hid (HX.out.trans (hb5.mono HX.out.size))
            have hcx5 := (hb5.cell (p := ⟨wr.heap.size, 1, none⟩) hlx).trans hcx
            have hlx5 := Nat.lt_of_lt_of_le hlx hb5.size
            clear hb5 hcx hlx
            go_wp2_with fail
            go_roundw
            case rel => exact ⟨i + 1, by omega, by go_num, by rw [HF.out]; exact congrArg Value.string (by apply ByteArray.ext; simp [ByteArray.data_append]), HB.out.trans (HX5.out.mono HB.out.size)⟩
            case measure => simp [intOf]; omega
          · have u3 : (-k != 1) = true := by simp; omega
            have hab : ((k.natAbs : Nat) : Int) = -k := by omega
            have e : termS i (k, m) = [45] ++ (Lib.itoa (-k) ++ [32]) ++ m := by unfold termS; dsimp only; rw [if_neg (show ¬ 0 < i by omega), if_pos kn, if_pos (show k.natAbs ≠ 1 by omega), hab]
            have HF := Lib.hid (HS.out.trans (by rw [e]))
            have hIl := itoa_short (-k) (by omega)
            have HIt := Lib.hid (fun W hb => itoa_any (-k) (by omega) (by omega) W (HTb.out W hb))
            generalize Lib.itoa (-k) = I at *
            clear i0 k1 e hab
            go_wp2_with fail
            go_quiet (fail)
            have HX := Lib.hid (below_drewN HBa.out nq)
            have hcx : ((wr.alloc (Obj.cells #[Value.int .i64 k, Value.string (Bs m)] 80)).drewN nq).cell? ⟨wr.heap.size, 1, none⟩ = some (.string (Bs m)) := World.cell?_alloc_at _ _ _ _ rfl
            have hlx : wr.heap.size < ((wr.alloc (Obj.cells #[Value.int .i64 k, Value.string (Bs m)] 80)).drewN nq).heap.size := by simp
            generalize (wr.alloc (Obj.cells #[Value.int .i64 k, Value.string (Bs m)] 80)).drewN nq = wx at *
            go_wp2_with fail
            refine (minus_none _ (HTb.out _ (HBw.out.trans (HX.out.mono HBw.out.size)))).mono ?_; rintro e w5 ⟨rfl, hb5⟩
            have HX5 := Lib.hid (HX.out.trans (hb5.mono HX.out.size))
            have hcx5 := (hb5.cell (p := ⟨wr.heap.size, 1, none⟩) hlx).trans hcx
            have hlx5 := Nat.lt_of_lt_of_le hlx hb5.size
            clear hb5 hcx hlx
            go_wp2_with fail
            refine (HIt.out _ (HBw.out.trans (HX5.out.mono HBw.out.size))).mono ?_; rintro e w6 ⟨rfl, hb6⟩
            have HX6 := Lib.hid (HX5.out.trans (hb6.mono HX5.out.size))
            have hcx6 := (hb6.cell (p := ⟨wr.heap.size, 1, none⟩) hlx5).trans hcx5
            clear hb6 hcx5 hlx5
            go_wp2_with fail
            go_roundw
            case rel => exact ⟨i + 1, by omega, by go_num, by rw [HF.out]; exact congrArg Value.string (by apply ByteArray.ext; simp [ByteArray.data_append]), HB.out.trans (HX6.out.mono HB.out.size)⟩
            case measure => simp [intOf]; omega
        · have u2 : decide (0 < i) = true := by simp; omega
          have u4 : ((i : Int) == 0) = false := by rw [beq_eq_false_iff_ne]; omega
          by_cases k1 : -k = 1
          · have u3 : (-k != 1) = false := by simp; omega
            have hab : ((k.natAbs : Nat) : Int) = -k := by omega
            have e : termS i (k, m) = [32, 45, 32] ++ [] ++ m := by unfold termS; dsimp only; rw [if_pos (show 0 < i by omega), if_pos kn, if_neg (show ¬ k.natAbs ≠ 1 by omega)]
            have HF := Lib.hid (HS.out.trans (by rw [e]))
            clear i0 k1 e hab
            go_wp2_with fail
            go_quiet (fail)
            have HX := Lib.hid (below_drewN HBa.out nq)
            have hcx : ((wr.alloc (Obj.cells #[Value.int .i64 k, Value.string (Bs m)] 80)).drewN nq).cell? ⟨wr.heap.size, 1, none⟩ = some (.string (Bs m)) := World.cell?_alloc_at _ _ _ _ rfl
            have hlx : wr.heap.size < ((wr.alloc (Obj.cells #[Value.int .i64 k, Value.string (Bs m)] 80)).drewN nq).heap.size := by simp
            generalize (wr.alloc (Obj.cells #[Value.int .i64 k, Value.string (Bs m)] 80)).drewN nq = wx at *
            go_wp2_with fail
            refine (minus_some _ (HTb.out _ (HBw.out.trans (HX.out.mono HBw.out.size)))).mono ?_; rintro e w5 ⟨rfl, hb5⟩
            have HX5 := Lib.hid (HX.out.trans (hb5.mono HX.out.size))
            have hcx5 := (hb5.cell (p := ⟨wr.heap.size, 1, none⟩) hlx).trans hcx
            have hlx5 := Nat.lt_of_lt_of_le hlx hb5.size
            clear hb5 hcx hlx
            go_wp2_with fail
            go_roundw
            case rel => exact ⟨i + 1, by omega, by go_num, by rw [HF.out]; exact congrArg Value.string (by apply ByteArray.ext; simp [ByteArray.data_append]), HB.out.trans (HX5.out.mono HB.out.size)⟩
            case measure => simp [intOf]; omega
          · have u3 : (-k != 1) = true := by simp; omega
            have hab : ((k.natAbs : Nat) : Int) = -k := by omega
            have e : termS i (k, m) = [32, 45, 32] ++ (Lib.itoa (-k) ++ [32]) ++ m := by unfold termS; dsimp only; rw [if_pos (show 0 < i by omega), if_pos kn, if_pos (show k.natAbs ≠ 1 by omega), hab]
            have HF := Lib.hid (HS.out.trans (by rw [e]))
            have hIl := itoa_short (-k) (by omega)
            have HIt := Lib.hid (fun W hb => itoa_any (-k) (by omega) (by omega) W (HTb.out W hb))
            generalize Lib.itoa (-k) = I at *
            clear i0 k1 e hab
            go_wp2_with fail
            go_quiet (fail)
            have HX := Lib.hid (below_drewN HBa.out nq)
            have hcx : ((wr.alloc (Obj.cells #[Value.int .i64 k, Value.string (Bs m)] 80)).drewN nq).cell? ⟨wr.heap.size, 1, none⟩ = some (.string (Bs m)) := World.cell?_alloc_at _ _ _ _ rfl
            have hlx : wr.heap.size < ((wr.alloc (Obj.cells #[Value.int .i64 k, Value.string (Bs m)] 80)).drewN nq).heap.size := by simp
            generalize (wr.alloc (Obj.cells #[Value.int .i64 k, Value.string (Bs m)] 80)).drewN nq = wx at *
            go_wp2_with fail
            refine (minus_some _ (HTb.out _ (HBw.out.trans (HX.out.mono HBw.out.size)))).mono ?_; rintro e w5 ⟨rfl, hb5⟩
            have HX5 := Lib.hid (HX.out.trans (hb5.mono HX.out.size))
            have hcx5 := (hb5.cell (p := ⟨wr.heap.size, 1, none⟩) hlx).trans hcx
            have hlx5 := Nat.lt_of_lt_of_le hlx hb5.size
            clear hb5 hcx hlx
            go_wp2_with fail
            refine (HIt.out _ (HBw.out.trans (HX5.out.mono HBw.out.size))).mono ?_; rintro e w6 ⟨rfl, hb6⟩
            have HX6 := Lib.hid (HX5.out.trans (hb6.mono HX5.out.size))
            have hcx6 := (hb6.cell (p := ⟨wr.heap.size, 1, none⟩) hlx5).trans hcx5
            clear hb6 hcx5 hlx5
            go_wp2_with fail
            go_roundw
            case rel => exact ⟨i + 1, by omega, by go_num, by rw [HF.out]; exact congrArg Value.string (by apply ByteArray.ext; simp [ByteArray.data_append]), HB.out.trans (HX6.out.mono HB.out.size)⟩
            case measure => simp [intOf]; omega
      · have u1 : decide (k < 0) = false := by simp; omega
        by_cases i0 : i = 0
        · have u2 : decide (0 < i) = false := by simp; omega
          by_cases k1 : k = 1
          · have u3 : (k != 1) = false := by simp; omega
            have hab : ((k.natAbs : Nat) : Int) = k := by omega
            have e : termS i (k, m) = [] ++ [] ++ m := by unfold termS; dsimp only; rw [if_neg (show ¬ 0 < i by omega), if_neg kn, if_neg (show ¬ k.natAbs ≠ 1 by omega)]
            have HF := Lib.hid (HS.out.trans (by rw [e]))
            clear i0 k1 e hab
            go_wp2_with fail
            go_quiet (fail)
            have HX := Lib.hid (below_drewN HBa.out nq)
            have hcx : ((wr.alloc (Obj.cells #[Value.int .i64 k, Value.string (Bs m)] 80)).drewN nq).cell? ⟨wr.heap.size, 1, none⟩ = some (.string (Bs m)) := World.cell?_alloc_at _ _ _ _ rfl
            have hlx : wr.heap.size < ((wr.alloc (Obj.cells #[Value.int .i64 k, Value.string (Bs m)] 80)).drewN nq).heap.size := by simp
            generalize (wr.alloc (Obj.cells #[Value.int .i64 k, Value.string (Bs m)] 80)).drewN nq = wx at *
            go_wp2_with fail
            go_roundw
            case rel => exact ⟨i + 1, by omega, by go_num, by rw [HF.out]; exact congrArg Value.string (by apply ByteArray.ext; simp [ByteArray.data_append]), HB.out.trans (HX.out.mono HB.out.size)⟩
            case measure => simp [intOf]; omega
          · have u3 : (k != 1) = true := by simp; omega
            have hab : ((k.natAbs : Nat) : Int) = k := by omega
            have e : termS i (k, m) = [] ++ (Lib.itoa (k) ++ [32]) ++ m := by unfold termS; dsimp only; rw [if_neg (show ¬ 0 < i by omega), if_neg kn, if_pos (show k.natAbs ≠ 1 by omega), hab]
            have HF := Lib.hid (HS.out.trans (by rw [e]))
            have hIl := itoa_short (k) (by omega)
            have HIt := Lib.hid (fun W hb => itoa_any (k) (by omega) (by omega) W (HTb.out W hb))
            generalize Lib.itoa (k) = I at *
            clear i0 k1 e hab
            go_wp2_with fail
            go_quiet (fail)
            have HX := Lib.hid (below_drewN HBa.out nq)
            have hcx : ((wr.alloc (Obj.cells #[Value.int .i64 k, Value.string (Bs m)] 80)).drewN nq).cell? ⟨wr.heap.size, 1, none⟩ = some (.string (Bs m)) := World.cell?_alloc_at _ _ _ _ rfl
            have hlx : wr.heap.size < ((wr.alloc (Obj.cells #[Value.int .i64 k, Value.string (Bs m)] 80)).drewN nq).heap.size := by simp
            generalize (wr.alloc (Obj.cells #[Value.int .i64 k, Value.string (Bs m)] 80)).drewN nq = wx at *
            go_wp2_with fail
            refine (HIt.out _ (HBw.out.trans (HX.out.mono HBw.out.size))).mono ?_; rintro e w6 ⟨rfl, hb6⟩
            have HX6 := Lib.hid (HX.out.trans (hb6.mono HX.out.size))
            have hcx6 := (hb6.cell (p := ⟨wr.heap.size, 1, none⟩) hlx).trans hcx
            clear hb6 hcx hlx
            go_wp2_with fail
            go_roundw
            case rel => exact ⟨i + 1, by omega, by go_num, by rw [HF.out]; exact congrArg Value.string (by apply ByteArray.ext; simp [ByteArray.data_append]), HB.out.trans (HX6.out.mono HB.out.size)⟩
            case measure => simp [intOf]; omega
        · have u2 : decide (0 < i) = true := by simp; omega
          by_cases k1 : k = 1
          · have u3 : (k != 1) = false := by simp; omega
            have hab : ((k.natAbs : Nat) : Int) = k := by omega
            have e : termS i (k, m) = [32, 43, 32] ++ [] ++ m := by unfold termS; dsimp only; rw [if_pos (show 0 < i by omega), if_neg kn, if_neg (show ¬ k.natAbs ≠ 1 by omega)]
            have HF := Lib.hid (HS.out.trans (by rw [e]))
            clear i0 k1 e hab
            go_wp2_with fail
            go_quiet (fail)
            have HX := Lib.hid (below_drewN HBa.out nq)
            have hcx : ((wr.alloc (Obj.cells #[Value.int .i64 k, Value.string (Bs m)] 80)).drewN nq).cell? ⟨wr.heap.size, 1, none⟩ = some (.string (Bs m)) := World.cell?_alloc_at _ _ _ _ rfl
            have hlx : wr.heap.size < ((wr.alloc (Obj.cells #[Value.int .i64 k, Value.string (Bs m)] 80)).drewN nq).heap.size := by simp
            generalize (wr.alloc (Obj.cells #[Value.int .i64 k, Value.string (Bs m)] 80)).drewN nq = wx at *
            go_wp2_with fail
            go_roundw
            case rel => exact ⟨i + 1, by omega, by go_num, by rw [HF.out]; exact congrArg Value.string (by apply ByteArray.ext; simp [ByteArray.data_append]), HB.out.trans (HX.out.mono HB.out.size)⟩
            case measure => simp [intOf]; omega
          · have u3 : (k != 1) = true := by simp; omega
            have hab : ((k.natAbs : Nat) : Int) = k := by omega
            have e : termS i (k, m) = [32, 43, 32] ++ (Lib.itoa (k) ++ [32]) ++ m := by unfold termS; dsimp only; rw [if_pos (show 0 < i by omega), if_neg kn, if_pos (show k.natAbs ≠ 1 by omega), hab]
            have HF := Lib.hid (HS.out.trans (by rw [e]))
            have hIl := itoa_short (k) (by omega)
            have HIt := Lib.hid (fun W hb => itoa_any (k) (by omega) (by omega) W (HTb.out W hb))
            generalize Lib.itoa (k) = I at *
            clear i0 k1 e hab
            go_wp2_with fail
            go_quiet (fail)
            have HX := Lib.hid (below_drewN HBa.out nq)
            have hcx : ((wr.alloc (Obj.cells #[Value.int .i64 k, Value.string (Bs m)] 80)).drewN nq).cell? ⟨wr.heap.size, 1, none⟩ = some (.string (Bs m)) := World.cell?_alloc_at _ _ _ _ rfl
            have hlx : wr.heap.size < ((wr.alloc (Obj.cells #[Value.int .i64 k, Value.string (Bs m)] 80)).drewN nq).heap.size := by simp
            generalize (wr.alloc (Obj.cells #[Value.int .i64 k, Value.string (Bs m)] 80)).drewN nq = wx at *
            go_wp2_with fail
            refine (HIt.out _ (HBw.out.trans (HX.out.mono HBw.out.size))).mono ?_; rintro e w6 ⟨rfl, hb6⟩
            have HX6 := Lib.hid (HX.out.trans (hb6.mono HX.out.size))
            have hcx6 := (hb6.cell (p := ⟨wr.heap.size, 1, none⟩) hlx).trans hcx
            clear hb6 hcx hlx
            go_wp2_with fail
            go_roundw
            case rel => exact ⟨i + 1, by omega, by go_num, by rw [HF.out]; exact congrArg Value.string (by apply ByteArray.ext; simp [ByteArray.data_append]), HB.out.trans (HX6.out.mono HB.out.size)⟩
            case measure => simp [intOf]; omega
    · have t0 : decide ((i : Int) < (tn : Int)) = false := by simp; omega
      obtain rfl : i = tn := by omega
      have hSl := HSl.out i
      have hsl2 := op_short c
      have hil := itoa_short n (by omega)
      have hT0 := HT0.out
      rw [← hT0] at hs
      generalize termsS 0 (ts.take i) = S at *
      have hbw := HB0.out.trans (hb.mono HB0.out.size)
      have HBd := Lib.hid (show Below w.heap.size w wr.drew from hbw.drew)
      have HBc := Lib.hid (show Below w.heap.size w (wr.drew.alloc (.cells opCells 9)) from hbw.drew.alloc (by exact hbw.size) _)
      have HIt := Lib.hid (fun W hb => itoa_any n (by omega) (by omega) W (HTb.out W hb))
      have hcq : opCells[c.toNat]? = some (.string (Bs (opS c))) := opCells_at c hc0 hc5
      have hop1 : (wr.drew.alloc (.cells opCells 9)).cell? ⟨wr.heap.size, c.toNat, none⟩ = some (.string (Bs (opS c))) := (World.cell?_alloc_at (w := wr.drew) _ _ _ _ rfl).trans hcq
      have hop2 : ∀ W : World, (W.alloc (.cells opCells 9)).cell? ⟨W.heap.size, c.toNat, none⟩ = some (.string (Bs (opS c))) := fun W => (World.cell?_alloc_at (w := W) _ _ _ _ rfl).trans hcq
      have hbx := fun j => (hb.cell (p := ⟨w.heap.size, j, none⟩) (by simp)).trans (World.cell?_alloc_at (w := w) #[Value.int .i64 0, Value.slice tA i tc, Value.int .i64 c, Value.int .i64 n, Value.slice dA dn dc] 25 w.heap.size j rfl)
      have x0 := hbx 0
      have x2 := hbx 2
      have x3 := hbx 3
      have lw : w.heap.size < wr.heap.size := by have := hb.size; simp at this; omega
      have HAf := Lib.hid (fun W (h : Below wr.heap.size wr.drew W) => (⟨(h.cell (p := ⟨w.heap.size, 0, none⟩) lw).trans x0, (h.cell (p := ⟨w.heap.size, 2, none⟩) lw).trans x2, (h.cell (p := ⟨w.heap.size, 3, none⟩) lw).trans x3⟩ : _ ∧ _ ∧ _))
      have HW0 := Lib.hid ((Below.refl wr.heap.size wr.drew).alloc (Nat.le_refl _) (.cells opCells 9))
      have HTl := Lib.hid (fun W (h : Below wr.heap.size wr.drew W) => HBd.out.trans (h.mono (by exact hbw.size)))
      rw [show S ++ ([32] ++ opS c ++ [32]) ++ Lib.itoa n = S ++ 32 :: (opS c ++ 32 :: Lib.itoa n) by simp] at hs
      have HL := Lib.hid (fun W => level_any 0 (by omega) (by omega) W)
      have hc6 : c < 6 := by omega
      generalize opS c = O at *
      generalize Lib.itoa n = I at *
      clear hcq hb hbw hbx hT0
      have k1 : ∀ W, Sem.run Tryz.prog (Op.stringOp .add { data := #[32] } (Bs O)) W = .ok (.string (Bs (32 :: O))) W := fun W => cat_run [32] O (by simp; omega) W
      have k2 : ∀ W, Sem.run Tryz.prog (Op.stringOp .add (Bs (32 :: O)) { data := #[32] }) W = .ok (.string (Bs (32 :: (O ++ [32])))) W := fun W => cat_run (32 :: O) [32] (by simp; omega) W
      have k3 : ∀ W, Sem.run Tryz.prog (Op.stringOp .add (Bs (32 :: (O ++ [32]))) (Bs I)) W = .ok (.string (Bs (32 :: (O ++ 32 :: I)))) W := fun W => (cat_run (32 :: (O ++ [32])) I (by simp; omega) W).trans (by simp)
      have k4 : ∀ W, Sem.run Tryz.prog (Op.stringOp .add (Bs S) (Bs (32 :: (O ++ 32 :: I)))) W = .ok (.string (Bs (S ++ 32 :: (O ++ 32 :: I)))) W := fun W => cat_run S (32 :: (O ++ 32 :: I)) (by simp; omega) W
      go_wp2_with fail
      go_region_with (first
        | (go_at_call 73; refine (comparisons_any _).mono ?_; rintro e wc ⟨rfl, rfl⟩)
        | (go_at_call 79; refine (HIt.out _ HBd.out).mono ?_; rintro e wi ⟨rfl, hbi⟩; have hbi : Below wr.heap.size wr.drew wi := hbi; obtain ⟨y0, y2, y3⟩ := HAf.out _ hbi)
        | (go_at_call 79; refine (HIt.out _ HBc.out).mono ?_; rintro e wi ⟨rfl, hbj⟩; have hop3 := (hbj.cell (p := ⟨wr.heap.size, c.toNat, none⟩) (by simp)).trans hop1; have hbi := HW0.out.trans (hbj.mono HW0.out.size); obtain ⟨y0, y2, y3⟩ := HAf.out _ hbi))
      all_goals
        have HB2 := Lib.hid (HTl.out _ hbi)
        have hbox2 := y0
        clear k1 k2 k3 k4 hop1 hop2 x0 x2 x3 y0 y2 y3
        by_cases hp : lev 0 < least
        · have hd1 : decide (((lev 0 : Nat) : Int) < (least : Int)) = true := by simp; omega
          have HE := Lib.hid (show E = [40] ++ (S ++ 32 :: (O ++ 32 :: I)) ++ [41] from hs.trans (if_pos hp))
          go_simp
          go_wp2_with fail
          refine (HL.out _).mono ?_; rintro e w3 ⟨rfl, hb3⟩
          have HB3 := Lib.hid (HB2.out.trans (hb3.mono HB2.out.size))
          clear hb3
          go_wp2_with fail
          go_ret
          exact ⟨congrArg (fun x => Ending.returned (Value.string x)) (show ({ data := #[40] } : ByteArray) ++ Bs (S ++ 32 :: (O ++ 32 :: I)) ++ { data := #[41] } = Bs E by rw [HE.out]; exact paren_bs _), HB3.out⟩
        · have hd1 : decide (((lev 0 : Nat) : Int) < (least : Int)) = false := by simp; omega
          have HE := Lib.hid (show E = S ++ 32 :: (O ++ 32 :: I) from hs.trans (if_neg hp))
          go_simp
          go_wp2_with fail
          refine (HL.out _).mono ?_; rintro e w3 ⟨rfl, hb3⟩
          have HB3 := Lib.hid (HB2.out.trans (hb3.mono HB2.out.size))
          clear hb3
          go_wp2_with fail
          go_ret
          exact ⟨by rw [HE.out]; rfl, HB3.out⟩
end Go.Proofs.YtonmpealebggoaaGreatDoor
namespace Go.Proofs.YtonmpealebggoaaGreatDoor
open Go.RowKit Pr
theorem show_any : ∀ (f : Nat), f ≤ 13 → ShowAt f
  | 0, _ => fun o v P least w h hv hT => absurd hv (by simp [VC])
  | f + 1, hf => fun o v P least w h hv hT => by
    rcases hv with ⟨hk, he⟩ | ⟨hk, a, rfl, ha⟩ | ⟨hk, a, b, hc, ha, hb⟩
    · exact show_cmp f o v P least w h hk he hT
    · exact show_not f (by omega) (show_any f (by omega)) a v P least w h ha hT
    · generalize o.kind = k at *
      subst hc
      rcases hk with rfl | rfl
      · exact show_and f (by omega) (show_any f (by omega)) a b v P least w h ha hb hT
      · exact show_or f (by omega) (show_any f (by omega)) a b v P least w h ha hb hT
end Go.Proofs.YtonmpealebggoaaGreatDoor
