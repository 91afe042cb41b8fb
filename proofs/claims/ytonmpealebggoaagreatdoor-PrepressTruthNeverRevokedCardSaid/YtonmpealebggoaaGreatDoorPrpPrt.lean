/- The walk of printed: the text of rules. -/
import Derived.Test.YtonmpealebggoaaGreatDoorPrpShow
import Derived.Test.YtonmpealebggoaaGreatDoorPrpRul0
import Derived.Test.YtonmpealebggoaaGreatDoorBuildX
namespace Go.Proofs.YtonmpealebggoaaGreatDoor
open Go.RowKit Pr
theorem print_step {l : List Rl} {i : Nat} (hi : i < l.length) : printS (l.take (i + 1)) = printS (l.take i) ++ lineS (l.getD i rl0) := by
  have h2 : l.take (i + 1) = l.take i ++ [l.getD i rl0] := by rw [List.take_add_one, List.getD_eq_getElem?_getD, List.getElem?_eq_getElem hi]; rfl
  rw [h2]; simp [printS]
theorem line_short {r : Rl} (h : RlOk r) : (lineS r).length ≤ 4096100 := by
  have h1 := name_short h.nm
  have h2 := show_len 12 r.2 0 h.cd
  simp only [lineS, wRule, List.length_append, List.length_cons, List.length_nil]
  omega
theorem print_short : ∀ (l : List Rl), (∀ r ∈ l, RlOk r) → (printS l).length ≤ 4096100 * l.length
  | [], _ => by simp [printS]
  | r :: l, h => by
    have h1 := line_short (h r (by simp))
    have h2 := print_short l fun x hx => h x (by simp [hx])
    simp only [printS, List.flatMap_cons, List.length_append, List.length_cons] at *
    omega
set_option maxRecDepth 100000 in
set_option maxHeartbeats 4000000 in
theorem printed_any (l : List Rl) (v : Value) (P : Nat → Prop) (w : World) (h : RlsV P w v l) (hok : ∀ r ∈ l, RlOk r) (hl : l.length ≤ 32) (hT : Tabs w) :
    Calls Tryz.prog 33 #[v] w fun e w' => e = .returned (.string (Bs (printS l))) ∧ Below w.heap.size w w' := by
  obtain ⟨A, c, rfl⟩ := h.form
  have HM := Lib.hid h
  have HSt := Lib.hid (fun i (hi : i < l.length) => print_step hi)
  have HOk := Lib.hid (fun i (hi : i < l.length) => (hok _ (by rw [List.getD_eq_getElem?_getD, List.getElem?_eq_getElem hi]; exact List.getElem_mem _) : RlOk (l.getD i rl0)))
  have HSl := Lib.hid (fun i => (Nat.le_trans (print_short (l.take i) fun t ht => hok t (List.mem_of_mem_take ht)) (Nat.mul_le_mul_left 4096100 (by rw [List.length_take]; omega)) : (printS (l.take i)).length ≤ 4096100 * 32))
  have HT0 : Hid (printS (l.take l.length) = printS l) := by unfold Hid; rw [List.take_length]
  clear h hok
  generalize printS l = PS at *
  generalize hln : l.length = n at *
  have HN := Lib.hid hln
  clear hln
  have HTb := Lib.hid (fun W (hb : Below w.heap.size w W) => hT.later hb)
  have HBx0 := Lib.hid (bx_new w)
  have HB0 := Lib.hid ((Below.refl w.heap.size w).alloc (Nat.le_refl _) (.cells #[.pointer none, .slice none 0 0] 102))
  clear hT
  go_enter Tryz.func33, Tryz.ntmps33
  go_wp2_with fail
  go_loopw [5, 8] (fun _ v8 wr => ∃ i : Nat, i ≤ n ∧ v8 = .int .i64 i ∧ Bx w.heap.size w.heap.size (printS (l.take i)) wr ∧ Below w.heap.size w wr ∧ w.heap.size < wr.heap.size) (fun _ v8 _ => n - (intOf v8).toNat)
  case atStart => exact ⟨0, Nat.zero_le _, rfl, HBx0.out, HB0.out, by simp⟩
  case round =>
    obtain ⟨i, hi, rfl, hbx, hb, hlw⟩ := hrel
    have HB := Lib.hid hb
    by_cases hlt : i < n
    · have t0 : decide ((i : Int) < (n : Int)) = true := by simp; omega
      obtain ⟨b, off, rfl, -, hbl, hcl⟩ := rl_at HM.out (by rw [HN.out]; omega)
      obtain ⟨A2, c2, A3, c3, hcd, q0, q1, q2, q3, q4, q5⟩ := hcl i (by rw [HN.out]; exact hlt)
      replace q0 := (hb.cell (p := ⟨b, off + i * 6, none⟩) hbl).trans q0
      replace q1 := (hb.cell (p := ⟨b, off + i * 6 + 1, none⟩) hbl).trans q1
      replace q2 := (hb.cell (p := ⟨b, off + i * 6 + 2, none⟩) hbl).trans q2
      replace q3 := (hb.cell (p := ⟨b, off + i * 6 + 3, none⟩) hbl).trans q3
      replace q4 := (hb.cell (p := ⟨b, off + i * 6 + 4, none⟩) hbl).trans q4
      replace q5 := (hb.cell (p := ⟨b, off + i * 6 + 5, none⟩) hbl).trans q5
      have hbl2 := Nat.lt_of_lt_of_le hbl hb.size
      have hS := HSt.out i hlt
      have hok := HOk.out i hlt
      have hSl := HSl.out i
      generalize l.getD i rl0 = x at *
      obtain ⟨nm, d⟩ := x
      dsimp only at q0 q1 q2 q3 q4 q5 hcd
      have hnm := name_short hok.nm
      have hsl2 := show_len 12 d 0 hok.cd
      dsimp only at hnm hsl2
      have hSh := fun W (hw : Below w.heap.size w W) => show_any 12 (by omega) d _ P 0 W (hcd.later hw) hok.cd (HTb.out W hw)
      unfold V5.val at hSh
      dsimp only at hSh
      have hline : lineS (nm, d) = 114 :: 117 :: 108 :: 101 :: 32 :: (nm ++ 58 :: 32 :: (showF 12 d 0 ++ [59, 10])) := by simp [lineS, wRule]
      rw [hline] at hS
      have hTl : (showF 12 d 0).length ≤ 4096000 := by omega
      clear hok hcd hcl hline hsl2
      generalize d.kind = x0 at *
      generalize d.terms.length = x1 at *
      generalize d.cmp = x2 at *
      generalize d.than = x3 at *
      generalize d.kids.length = x4 at *
      generalize showF 12 d 0 = T at *
      generalize printS (l.take i) = S at *
      have HS := Lib.hid hS
      have HSh := Lib.hid (fun W hw => (by have := hSh W hw; rwa [show ((0 : Nat) : Int) = 0 from rfl] at this : Calls Tryz.prog 50 #[_, .int .i64 0] W _))
      have HX := Lib.hid (hb.alloc hb.size (.cells #[Value.string (Bs nm), Value.int .i64 x0, Value.slice A2 x1 c2, Value.int .i64 x2, Value.int .i64 x3, Value.slice A3 x4 c3] 27)).drew
      have HBx := Lib.hid (bx_drew (bx_below hbx ((Below.refl _ _).alloc (Nat.le_refl _) (.cells #[Value.string (Bs nm), Value.int .i64 x0, Value.slice A2 x1 c2, Value.int .i64 x2, Value.int .i64 x3, Value.slice A3 x4 c3] 27))))
      have hzx : wr.heap.size < (wr.alloc (.cells #[Value.string (Bs nm), Value.int .i64 x0, Value.slice A2 x1 c2, Value.int .i64 x2, Value.int .i64 x3, Value.slice A3 x4 c3] 27)).drew.heap.size := by simp
      have hxc := fun j => (World.cell?_alloc_at (w := wr) #[Value.string (Bs nm), Value.int .i64 x0, Value.slice A2 x1 c2, Value.int .i64 x2, Value.int .i64 x3, Value.slice A3 x4 c3] 27 wr.heap.size j rfl)
      have z0 := hxc 0
      have z1 := hxc 1
      have z2 := hxc 2
      have z3 := hxc 3
      have z4 := hxc 4
      have z5 := hxc 5
      have k1 : ∀ W, Sem.run Tryz.prog (Op.stringOp .add { data := #[114, 117, 108, 101, 32] } (Bs nm)) W = .ok (.string (Bs (114 :: 117 :: 108 :: 101 :: 32 :: nm))) W := fun W => cat_run [114, 117, 108, 101, 32] nm (by simp; omega) W
      have k2 : ∀ W, Sem.run Tryz.prog (Op.stringOp .add (Bs (114 :: 117 :: 108 :: 101 :: 32 :: nm)) { data := #[58, 32] }) W = .ok (.string (Bs (114 :: 117 :: 108 :: 101 :: 32 :: (nm ++ [58, 32])))) W := fun W => cat_run (114 :: 117 :: 108 :: 101 :: 32 :: nm) [58, 32] (by simp; omega) W
      have k3 : ∀ W, Sem.run Tryz.prog (Op.stringOp .add (Bs (114 :: 117 :: 108 :: 101 :: 32 :: (nm ++ [58, 32]))) (Bs T)) W = .ok (.string (Bs (114 :: 117 :: 108 :: 101 :: 32 :: (nm ++ 58 :: 32 :: T)))) W := fun W => (cat_run (114 :: 117 :: 108 :: 101 :: 32 :: (nm ++ [58, 32])) T (by simp; omega) W).trans (by simp)
      have k4 : ∀ W, Sem.run Tryz.prog (Op.stringOp .add (Bs (114 :: 117 :: 108 :: 101 :: 32 :: (nm ++ 58 :: 32 :: T))) { data := #[59, 10] }) W = .ok (.string (Bs (114 :: 117 :: 108 :: 101 :: 32 :: (nm ++ 58 :: 32 :: (T ++ [59, 10]))))) W := fun W => (cat_run (114 :: 117 :: 108 :: 101 :: 32 :: (nm ++ 58 :: 32 :: T)) [59, 10] (by simp; omega) W).trans (by simp)
      clear hb hbx hSh hS hxc
      have HX1 := Lib.hid (HB.out.alloc HB.out.size (.cells #[Value.string (Bs nm), Value.int .i64 x0, Value.slice A2 x1 c2, Value.int .i64 x2, Value.int .i64 x3, Value.slice A3 x4 c3] 27))
      have HBk := Lib.hid (fun W (hw : Below (wr.alloc (.cells #[Value.string (Bs nm), Value.int .i64 x0, Value.slice A2 x1 c2, Value.int .i64 x2, Value.int .i64 x3, Value.slice A3 x4 c3] 27)).drew.heap.size (wr.alloc (.cells #[Value.string (Bs nm), Value.int .i64 x0, Value.slice A2 x1 c2, Value.int .i64 x2, Value.int .i64 x3, Value.slice A3 x4 c3] 27)).drew W) => (⟨bx_below HBx.out hw, HX.out.trans (hw.mono HX.out.size), Nat.lt_of_lt_of_le hlw (Nat.le_trans (Nat.le_of_lt hzx) hw.size), (hw.cell (p := ⟨wr.heap.size, 0, none⟩) hzx).trans z0⟩ : _ ∧ _ ∧ _ ∧ _))
      go_wp2_with fail
      go_region_with (first
        | (go_at_call 50; refine (HSh.out _ HX.out).mono ?_; rintro e w5 ⟨rfl, hb5⟩; obtain ⟨m1, m2, m3, m4⟩ := HBk.out _ hb5)
        | (go_at_call 49; refine (bx_write m1 _ (by simp [ByteArray.size]; omega) (Nat.le_of_lt m3)).mono ?_; rintro e w6 ⟨rfl, n1, n2, n3⟩; have n4 := Nat.lt_of_lt_of_le m3 n2.size))
      all_goals
        have HS2 := Lib.hid n1
        have HB6 := Lib.hid (m2.trans n2)
        have HFin := Lib.hid (show Bx w.heap.size w.heap.size (printS (l.take (i + 1))) _ by rw [HS.out]; simpa using n1)
        clear m1 m2 n1 n2 n3
        go_simp
        go_wp2_with fail
        go_roundw
        case rel => exact ⟨i + 1, by omega, by go_num, HFin.out, HB6.out, n4⟩
        case measure => simp [intOf]; omega
    · have t0 : decide ((i : Int) < (n : Int)) = false := by simp; omega
      obtain rfl : i = n := by omega
      have HSr := Lib.hid (bx_string hbx (Nat.le_of_lt hlw))
      rw [HT0.out] at HSr
      go_wp2_with fail
      refine HSr.out.mono ?_; rintro e w5 ⟨rfl, hb5⟩
      go_wp2_with fail
      go_ret
      exact ⟨rfl, HB.out.trans hb5⟩
end Go.Proofs.YtonmpealebggoaaGreatDoor
