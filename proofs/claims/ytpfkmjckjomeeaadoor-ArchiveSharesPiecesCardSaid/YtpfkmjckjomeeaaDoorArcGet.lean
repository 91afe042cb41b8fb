/- The walk of Get. -/
import Derived.Test.YtpfkmjckjomeeaaDoorArcDrop
import Derived.Test.YtpfkmjckjomeeaaDoorBuildX
namespace Go.Proofs.YtpfkmjckjomeeaaDoor
open Go.RowKit Arc
open Go.Maps (Keyed)
theorem AM.lookN {B A : Nat} {S : St} {V : AV} {w : World} (h : AM B A S V w) (n : ByteArray) (hn : n.size ≤ 1000) (hin : n ∈ S.order) :
    (Instr.lookup 56 (.map (some V.N)) (.string n) false).run Tryd.prog w = .ok (V.ev n) w ∧ (Instr.lookup 56 (.map (some V.N)) (.string n) true).run Tryd.prog w = .ok (.tuple #[V.ev n, .bool true]) w := by
  have := h.mn.look lawS Tryd.underlying56 (zeroE w) (keyS n (by unfold maxLen; omega))
  rw [FA_get kS_key kS_inj hin] at this; exact this
theorem AM.lookN0 {B A : Nat} {S : St} {V : AV} {w : World} (h : AM B A S V w) (n : ByteArray) (hn : n.size ≤ 1000) (hin : n ∉ S.order) :
    (Instr.lookup 56 (.map (some V.N)) (.string n) true).run Tryd.prog w = .ok (.tuple #[.agg #[.slice none 0 0, .slice none 0 0, .int .i64 0], .bool false]) w := by
  have := (h.mn.look lawS Tryd.underlying56 (zeroE w) (keyS n (by unfold maxLen; omega))).2
  rw [FA_none kS_key kS_inj hin] at this; exact this
set_option maxRecDepth 100000 in
set_option maxHeartbeats 4000000 in
theorem get_none {B A : Nat} {S : St} {V : AV} (name : ByteArray) (w : World) (h : AM B A S V w) (hsz : name.size ≤ 1000) (hin : name ∉ S.order) :
    Calls Tryd.prog 17 #[.pointer (some ⟨A, 0, none⟩), .string name] w fun e w' => e = .returned (.tuple #[.string ⟨#[]⟩, .int .i64 8]) ∧ Below w.heap.size w w' := by
  have hl := h.lookN0 name hsz hin
  have cA := h.ba.cell 1
  simp only [List.getElem?_toArray, List.getElem?_cons_zero, List.getElem?_cons_succ] at cA
  have lA := h.ba.lt
  clear h hin
  go_enter Tryd.func17, Tryd.ntmps17
  go_wp2
  go_ret2
  exact ⟨rfl, (Below.refl _ _).alloc (Nat.le_refl _) _⟩
def GetOk (l : List ByteArray) (w : World) (e : Ending) (w' : World) : Prop := e = .returned (.tuple #[.string ⟨(cat l).toArray⟩, .int .i64 0]) ∧ Below w.heap.size w w'
theorem cat_snoc (l : List ByteArray) (s : ByteArray) : cat (l ++ [s]) = cat l ++ s.data.toList := by simp [cat]
theorem cat_len (l : List ByteArray) (h : ∀ s ∈ l, s.size ≤ 256) : (cat l).length ≤ 256 * l.length := by
  induction l with
  | nil => simp [cat]
  | cons a r ih =>
    have h1 := ih fun s hs => h s (by simp [hs])
    have h2 := h a (by simp)
    simp only [cat, List.flatMap_cons, List.length_append, Array.length_toList, ByteArray.size_data, List.length_cons] at h1 ⊢
    omega
set_option maxRecDepth 100000 in
set_option maxHeartbeats 8000000 in
theorem get_some {B A : Nat} {S : St} {V : AV} (x : ByteArray × Ent) (l : List ByteArray) (w : World) (h : AM B A S V w) (hx : x ∈ S.nm) (hl : S.p.look x.2.ks l) (hl2 : l.length ≤ 20000) (h256 : ∀ s ∈ l, s.size ≤ 256) (hsz : x.1.size ≤ 1000) :
    Calls Tryd.prog 17 #[.pointer (some ⟨A, 0, none⟩), .string x.1] w (GetOk l w) := by
  obtain ⟨name, ⟨ks, sz⟩⟩ := x
  dsimp only at hl hsz
  have HP : Hid (∀ e w', GetOk l w e w' = (e = .returned (.tuple #[.string ⟨(cat l).toArray⟩, .int .i64 0]) ∧ Below w.heap.size w w')) := fun _ _ => rfl
  generalize GetOk l w = Post at *
  have HA := Lib.hid h
  have hin : name ∈ S.order := List.mem_map_of_mem (f := Prod.fst) hx
  obtain ⟨vk, va, hev, ok, oa⟩ := h.en _ hx
  have hl1 := (h.lookN name hsz hin).2
  dsimp only at hev ok oa
  rw [hev] at hl1
  have cA := h.ba.cell 1
  have cP := h.ba.cell 0
  simp only [List.getElem?_toArray, List.getElem?_cons_zero, List.getElem?_cons_succ] at cA cP
  have lA := h.ba.lt
  obtain ⟨Ak, ck, rfl⟩ := own_form ok
  obtain ⟨Aa, ca, rfl⟩ := own_form oa
  obtain ⟨n, hn⟩ : ∃ n, ks.length = n := ⟨_, rfl⟩
  rw [hn] at hl1 ok oa
  have HR : Hid (∀ j, j < n → ∃ (gk ga gp cp np : Nat) (k : BitVec 32) (i : Nat) (p : ByteArray), Ak = some ⟨gk, 0, none⟩ ∧ Aa = some ⟨ga, 0, none⟩ ∧ gk < w.heap.size ∧ ga < w.heap.size ∧ gp < w.heap.size ∧
      w.cell? ⟨gk, j, none⟩ = some (.int .u32 (k.toNat : Int)) ∧ w.cell? ⟨ga, j, none⟩ = some (.int .i64 (i : Int)) ∧ i < np ∧ np ≤ 9223372036854775807 ∧ V.vf k = .slice (some ⟨gp, 0, none⟩) np cp ∧ w.cell? ⟨gp, i, none⟩ = some (.string p) ∧ l.take (j + 1) = l.take j ++ [p] ∧ p.size ≤ 256) := fun j hj => by
    obtain ⟨gk, cap, e1, _, k1, _, _, k3⟩ := own_cells ok (by omega)
    obtain ⟨ga, cap2, e2, _, a1, _, _, a3⟩ := own_cells oa (by omega)
    injection e1 with e1; injection e2 with e2
    have hj1 : j < ks.length := by omega
    have hj2 : j < l.length := by have := hl.1; omega
    have hp := hl.2 j ks[j] l[j] (List.getElem?_eq_getElem hj1) (List.getElem?_eq_getElem hj2)
    have hi := (List.getElem?_eq_some_iff.1 hp).1
    have hof := h.of ks[j].1
    obtain ⟨gp, cp, e3, _, p1, p2, p3, p4⟩ := own_cells hof (by omega)
    unfold maxLen at p3
    refine ⟨gk, ga, gp, cp, _, ks[j].1, ks[j].2, l[j], e1, e2, k1, a1, p1, k3 j _ ?_, a3 j _ ?_, hi, by omega, e3, p4 _ _ ?_, ?_, h256 _ (List.getElem_mem hj2)⟩
    · unfold keysV; rw [List.getElem?_map, List.getElem?_eq_getElem hj1]; rfl
    · unfold atsV; rw [List.getElem?_map, List.getElem?_eq_getElem hj1]; rfl
    · unfold strs; rw [List.getElem?_map, hp]; rfl
    · rw [List.take_succ_eq_append_getElem hj2]
  have HL : Hid (∀ j, j ≤ n → (cat (l.take j)).length ≤ 256 * j) := fun j hj => by
    have := cat_len (l.take j) fun s hs => h256 s (List.mem_of_mem_take hs)
    rw [List.length_take] at this
    have h2 : min j l.length ≤ j := Nat.min_le_left _ _
    omega
  have HLn : Hid (l.take n = l) := by rw [← hn, hl.1, List.take_length]; exact rfl
  have hn2 : n ≤ 20000 := by have := hl.1; omega
  have HLk : Hid (∀ w' k, Below w.heap.size w w' → (Instr.lookup 55 (.map (some V.P)) (.int .u32 ((k : BitVec 32).toNat : Int)) false).run Tryd.prog w' = .ok (V.vf k) w') := fun w' k hb => (HA.out.later hb).lookP k
  clear hl hx hev h ok oa hin hn hl2 h256
  go_enter Tryd.func17, Tryd.ntmps17
  go_wp2
  have HB0 : Hid (Below w.heap.size w ((w.alloc (Obj.cells #[.slice Ak n ck, .slice Aa n ca, .int .i64 (sz : Int)] 62)).alloc (Obj.cells #[.pointer none, .slice none 0 0] 69))) := ((Below.refl _ _).alloc (Nat.le_refl _) _).alloc (by simp) _
  have HX0 : Hid (Bx (w.heap.size + 1) (w.heap.size + 1) [] ((w.alloc (Obj.cells #[.slice Ak n ck, .slice Aa n ca, .int .i64 (sz : Int)] 62)).alloc (Obj.cells #[.pointer none, .slice none 0 0] 69))) := by
    have := bx_new (w.alloc (Obj.cells #[.slice Ak n ck, .slice Aa n ca, .int .i64 (sz : Int)] 62))
    rw [World.size_alloc] at this; exact this
  have HE0 : Hid (Blk ((w.alloc (Obj.cells #[.slice Ak n ck, .slice Aa n ca, .int .i64 (sz : Int)] 62)).alloc (Obj.cells #[.pointer none, .slice none 0 0] 69)) w.heap.size 62 #[.slice Ak n ck, .slice Aa n ca, .int .i64 (sz : Int)]) := (Blk.new _ _ _).alloc _
  have hs1 : w.heap.size + 2 ≤ ((w.alloc (Obj.cells #[.slice Ak n ck, .slice Aa n ca, .int .i64 (sz : Int)] 62)).alloc (Obj.cells #[.pointer none, .slice none 0 0] 69)).heap.size := by simp
  generalize (w.alloc (Obj.cells #[.slice Ak n ck, .slice Aa n ca, .int .i64 (sz : Int)] 62)).alloc (Obj.cells #[.pointer none, .slice none 0 0] 69) = w1 at *
  clear hl1 cA
  generalize hEq : w.heap.size = E at *
  clear hEq HA
  go_loopw [25] (fun v25 wr => ∃ j : Nat, j ≤ n ∧ v25 = .int .i64 (j : Int) ∧ Bx (E + 1) (E + 1) (cat (l.take j)) wr ∧ Below (E + 1) w1 wr) (fun v25 _ => n - (intOf v25).toNat)
  case atStart => exact ⟨0, by omega, rfl, HX0.out, Below.refl _ _⟩
  case round =>
    obtain ⟨j, hj, rfl, bx, hb⟩ := hrel
    have BX := Lib.hid bx
    have HB := Lib.hid hb
    have hsr : E + 2 ≤ wr.heap.size := by have := hb.size; omega
    have HW : Hid (Below E w wr) := HB0.out.trans (hb.mono (by omega))
    have hLj := HL.out j hj
    clear bx hb
    by_cases hlt : j < n
    · obtain ⟨gk, ga, gp, cp, np, k, i, p, rfl, rfl, k1, a1, p1, c1, c2, hi, hnp, hvf, c3, htk, hp⟩ := HR.out j hlt
      have hlk := HLk.out wr.drew k HW.out.drew
      rw [hvf] at hlk
      have d1 := (HW.out.cell (p := ⟨gk, j, none⟩) k1).trans c1
      have d2 : wr.drew.cell? ⟨ga, j, none⟩ = some (.int .i64 (i : Int)) := (HW.out.cell (p := ⟨ga, j, none⟩) a1).trans c2
      have d3 : wr.drew.cell? ⟨gp, i, none⟩ = some (.string p) := (HW.out.cell (p := ⟨gp, i, none⟩) p1).trans c3
      have bE := HE0.out.below HB.out (Nat.lt_succ_self E)
      have d4 : wr.drew.cell? ⟨E, 1, none⟩ = some (.slice (some ⟨ga, 0, none⟩) n ca) := bE.cell 1
      have d5 : wr.drew.cell? ⟨A, 0, none⟩ = some (.map (some V.P)) := (HW.out.cell (p := ⟨A, 0, none⟩) lA).trans cP
      have HTK := Lib.hid htk
      have HVF := Lib.hid hvf
      clear c1 c2 c3 htk hvf bE
      go_upto_region 8 with (fail)
      go_still_tail 13, (by kernel_rfl)
      go_wp2_with fail
      refine (bx_write (bx_drew BX.out) p (by omega) (by show E + 1 ≤ wr.heap.size; omega)).mono ?_; rintro e w2 ⟨rfl, bx2, hb2, _⟩
      have BX2 : Hid (Bx (E + 1) (E + 1) (cat (l.take (j + 1))) w2) := by rw [HTK.out, cat_snoc]; exact bx2
      have HB2 := Lib.hid (HB.out.drew.trans hb2)
      clear bx2 hb2
      go_wp2
      go_roundw
      case rel => exact ⟨j + 1, by omega, by go_num, BX2.out, HB2.out⟩
      case measure => simp [intOf]; omega
    · obtain rfl : j = n := by omega
      go_wp2_with fail
      refine (bx_string BX.out (by omega)).mono ?_; rintro e w2 ⟨rfl, hb2⟩
      have HFin : Hid (Post (.returned (.tuple #[.string ⟨(cat l).toArray⟩, .int .i64 0])) w2) := by
        rw [HP.out]; exact ⟨rfl, HW.out.trans (hb2.mono (by omega))⟩
      rw [HLn.out]
      go_wp2
      exact HFin.out
end Go.Proofs.YtpfkmjckjomeeaaDoor
