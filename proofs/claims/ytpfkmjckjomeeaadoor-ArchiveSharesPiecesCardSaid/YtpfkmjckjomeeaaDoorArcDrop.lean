/- The walks of Drop, Names and of Put's errors. -/
import Derived.Test.YtpfkmjckjomeeaaDoorArcPut
import Derived.Test.YtpfkmjckjomeeaaDoorArcNew
import Derived.Test.YtpfkmjckjomeeaaDoorArcOrd
import Derived.Lib.OwnBridge
import Derived.StillTailTactics
namespace Go.Proofs.YtpfkmjckjomeeaaDoor
open Go.RowKit Arc
open Go.Maps (Keyed)
/-- BinarySearch in a list in order. -/
theorem search_pos {w : World} {base : Nat} {v : Value} (l : List ByteArray) (x : ByteArray) (h : w.ownsRow base 9 1 v l.length (strs l)) (hl : l.length ≤ 1000000) (hS : Srt l) :
    Calls Tryd.prog 24 #[v, .string x] w fun e w' => e = .returned (.tuple #[.int .i64 (pos l x : Int), .bool (decide (pos l x < l.length ∧ l.getD (pos l x) ByteArray.empty = x))]) ∧ ∃ q, w' = w.drewN q :=
  search_any l x h hl (pos l x) (pos_le l x) (fun _ hj => pos_lt hj) (fun _ h1 h2 => pos_ge hS h1 h2)
set_option maxRecDepth 100000 in
set_option maxHeartbeats 4000000 in
theorem put_large {A : Nat} (name s : ByteArray) (w : World) (hm : s.size ≤ maxLen) (hs : 16384 < s.size) :
    Calls Tryd.prog 18 #[.pointer (some ⟨A, 0, none⟩), .string name, .string s] w fun e w' => e = .returned (.int .i64 2) ∧ w = w' := by
  have HC := Lib.hid (cuts_large s w hm hs)
  go_enter Tryd.func18, Tryd.ntmps18
  go_wp2_with fail
  refine HC.out.mono ?_; rintro e w1 ⟨rfl, rfl⟩
  go_wp2
  go_ret
  exact ⟨rfl, rfl⟩
set_option maxRecDepth 100000 in
set_option maxHeartbeats 4000000 in
theorem put_twice {B A : Nat} {S : St} {V : AV} (name s : ByteArray) (w : World) (h : AM B A S V w) (hg : Good name) (hs : s.size ≤ 16384) (hS : Srt S.order) (hlen : S.order.length ≤ 1000000) (hin : name ∈ S.order) :
    Calls Tryd.prog 18 #[.pointer (some ⟨A, 0, none⟩), .string name, .string s] w fun e w' => e = .returned (.int .i64 7) ∧ Below w.heap.size w w' := by
  have HC := Lib.hid (cuts_any s w hs)
  have HG := Lib.hid hg
  have HA := Lib.hid h
  obtain ⟨p1, p2⟩ := pos_mem hS hin
  have HSr : Hid (∀ w', Below w.heap.size w w' → Calls Tryd.prog 24 #[V.vo, .string name] w' fun e w'' => e = .returned (.tuple #[.int .i64 (pos S.order name : Int), .bool true]) ∧ ∃ q, w'' = w'.drewN q) := fun w' hb => by
    have := search_pos S.order name (HA.out.later hb).oo hlen hS
    rw [decide_eq_true ⟨p1, p2⟩] at this; exact this
  have HCe : Hid (∀ w', Below w.heap.size w w' → w'.cell? ⟨A, 2, none⟩ = some V.vo) := fun w' hb => (HA.out.later hb).ba.cell 2
  generalize pos S.order name = ps at *
  clear hg h hin p1 p2 hS
  go_enter Tryd.func18, Tryd.ntmps18
  go_wp2_with fail
  refine HC.out.mono ?_; rintro e w1 ⟨vl, rfl, ho1, hb1⟩
  have B1 := Lib.hid hb1
  have cA := HCe.out _ hb1
  clear ho1 hb1 HC
  go_wp2_with fail
  refine (plain_any name _ HG.out).mono ?_; rintro e w' ⟨rfl, rfl⟩
  go_wp2_with fail
  refine (HSr.out _ B1.out).mono ?_; rintro e w' ⟨rfl, q, rfl⟩
  go_wp2
  go_ret
  exact ⟨rfl, below_drewN B1.out q⟩
set_option maxRecDepth 100000 in
set_option maxHeartbeats 4000000 in
theorem names_any {B A : Nat} {S : St} {V : AV} (w : World) (h : AM B A S V w) (hlen : S.order.length ≤ 1000000) :
    Calls Tryd.prog 16 #[.pointer (some ⟨A, 0, none⟩)] w fun e w' => ∃ v', e = .returned v' ∧ w'.ownsRow w.heap.size 9 1 v' S.order.length (strs S.order) ∧ Below w.heap.size w w' := by
  have HC := Lib.hid (clone_strs S.order h.oo hlen)
  have cA := h.ba.cell 2
  simp only [List.getElem?_toArray, List.getElem?_cons_zero, List.getElem?_cons_succ] at cA
  have lA := h.ba.lt
  clear h
  go_enter Tryd.func16, Tryd.ntmps16
  go_wp2_with fail
  refine HC.out.mono ?_; rintro e w1 ⟨v', rfl, ho1, hb1⟩
  go_wp2
  go_ret
  exact ⟨_, rfl, ho1, hb1⟩
set_option maxRecDepth 100000 in
set_option maxHeartbeats 4000000 in
theorem drop_none {B A : Nat} {S : St} {V : AV} (name : ByteArray) (w : World) (h : AM B A S V w) (hS : Srt S.order) (hlen : S.order.length ≤ 1000000) (hin : name ∉ S.order) :
    Calls Tryd.prog 12 #[.pointer (some ⟨A, 0, none⟩), .string name] w fun e w' => e = .returned (.int .i64 8) ∧ Below w.heap.size w w' := by
  have cA := h.ba.cell 2
  simp only [List.getElem?_toArray, List.getElem?_cons_zero, List.getElem?_cons_succ] at cA
  have lA := h.ba.lt
  have HSr := Lib.hid (search_pos S.order name h.oo hlen hS)
  rw [decide_eq_false (pos_none hin)] at HSr
  generalize pos S.order name = ps at *
  clear h hS hin
  go_enter Tryd.func12, Tryd.ntmps12
  go_wp2_with fail
  refine HSr.out.mono ?_; rintro e w' ⟨rfl, q, rfl⟩
  go_wp2
  go_ret
  exact ⟨rfl, below_drewN (Below.refl _ _) q⟩
open Go.Lib Go.Sort in
theorem grown_putRow {α : Type} [Inhabited α] {enc : α → Value} {w : World} {g q : Nat} {d : Array α} : w.grownBy (putRow enc (Sort.ahead w q) g 0 d) (some g) :=
  ⟨rfl, rfl, rfl, by simp [putRow, mapBlock, Sort.ahead], fun k _ hk => by
    simp [putRow, mapBlock, Sort.ahead, Array.getElem?_modify, show g ≠ k from fun e => hk (by rw [e])]⟩
open Go.Lib in
theorem delete_any {w : World} {base : Nat} {v : Value} (l : List ByteArray) (h : w.ownsRow base 9 1 v l.length (strs l)) (i : Nat) (hi : i < l.length) :
    Calls Tryd.prog 25 #[v, .int .i64 (i : Int), .int .i64 ((i : Int) + 1)] w fun e w' => ∃ v', e = .returned v' ∧ w'.ownsRow base 9 1 v' (l.length - 1) (strs (l.eraseIdx i)) ∧ w.grownBy w' v.ownBlock ∧ v'.ownBlock = v.ownBlock := by
  have e0 : strs l = (l.map fun x : ByteArray => x.data.toList).map encStr := (map_encStr l).symm
  rw [e0] at h
  have hv : v ≠ .slice none 0 0 := fun e => by
    obtain ⟨g, cap, e2, _⟩ := own_cells h (by omega)
    rw [e] at e2; cases e2
  obtain ⟨g, cap, rfl, hb, hlt, hn, hm, hl, hH⟩ := holds_of_ownsRow h hv
  have hc := slices_Delete_string g 0 cap i (i + 1) (l.map fun x : ByteArray => x.data.toList) w hH (by simpa using hn) (by unfold maxLen at hm; exact hm) (by omega) (by simp; omega)
  rw [List.length_map] at hc
  refine Calls.mono hc fun e w' ⟨he, q, hw⟩ => ?_
  have hlen : ((l.map fun x : ByteArray => x.data.toList).take i ++ (l.map fun x : ByteArray => x.data.toList).drop (i + 1) ++ List.replicate (i + 1 - i) []).length = l.length := by simp; omega
  have hr := ownsRow_putRow (q := q) h hlen (show l.length - 1 ≤ l.length by omega)
  rw [← hw] at hr
  refine ⟨_, he, ?_, ?_, rfl⟩
  · rw [show l.length - (i + 1 - i) = l.length - 1 by omega]
    have e1 : ((l.map fun x : ByteArray => x.data.toList).take i ++ (l.map fun x : ByteArray => x.data.toList).drop (i + 1) ++ List.replicate (i + 1 - i) []).take (l.length - 1) = (l.eraseIdx i).map fun x : ByteArray => x.data.toList := by
      rw [List.take_append_of_le_length (by simp; omega), List.take_of_length_le (by simp; omega), map_eraseIdx, List.eraseIdx_eq_take_drop_succ]
    rw [e1, map_encStr] at hr
    exact hr
  · rw [hw]; exact grown_putRow
def DropOk (B A : Nat) (S : St) (V : AV) (k : Nat) (w : World) (e : Ending) (w' : World) : Prop :=
  ∃ V', e = .returned (.int .i64 0) ∧ AM B A ⟨S.p, S.nm.eraseIdx k⟩ V' w' ∧ Fr (Fp A V) w w' ∧ (∀ b, Fp A V' b → Fp A V b) ∧ V'.n = V.n
set_option maxRecDepth 100000 in
set_option maxHeartbeats 4000000 in
theorem drop_some {B A : Nat} {S : St} {V : AV} (name : ByteArray) (w : World) (h : AM B A S V w) (hS : Srt S.order) (hlen : S.order.length ≤ 1000000) (hin : name ∈ S.order) (hsz : name.size ≤ 1000) :
    Calls Tryd.prog 12 #[.pointer (some ⟨A, 0, none⟩), .string name] w (DropOk B A S V (pos S.order name) w) := by
  have HP : Hid (∀ k e w', DropOk B A S V k w e w' = ∃ V', e = .returned (.int .i64 0) ∧ AM B A ⟨S.p, S.nm.eraseIdx k⟩ V' w' ∧ Fr (Fp A V) w w' ∧ (∀ b, Fp A V' b → Fp A V b) ∧ V'.n = V.n) := fun _ _ _ => rfl
  obtain ⟨p1, p2⟩ := pos_mem hS hin
  have HSr := Lib.hid (search_pos S.order name h.oo hlen hS)
  rw [decide_eq_true ⟨p1, p2⟩] at HSr
  have HDl : Hid (∀ q, Calls Tryd.prog 25 #[V.vo, .int .i64 (pos S.order name : Int), .int .i64 ((pos S.order name : Int) + 1)] (w.drewN q) fun e w' => ∃ v', e = .returned v' ∧ w'.ownsRow B 9 1 v' (S.order.length - 1) (strs (S.order.eraseIdx (pos S.order name))) ∧ (w.drewN q).grownBy w' V.vo.ownBlock ∧ v'.ownBlock = V.vo.ownBlock) := fun q => delete_any S.order (own_below h.oo (below_drewN (Below.refl _ _) q)) _ p1
  have hge : S.order[pos S.order name] = name := by
    rw [List.getD_eq_getElem?_getD, List.getElem?_eq_getElem p1] at p2; exact p2
  have HFin : Hid (∀ (q : Nat) (w1 : World) (v' : Value), w1.ownsRow B 9 1 v' (S.order.length - 1) (strs (S.order.eraseIdx (pos S.order name))) → (w.drewN q).grownBy w1 V.vo.ownBlock → v'.ownBlock = V.vo.ownBlock →
      w1.cell? ⟨A, 2, none⟩ = some V.vo ∧ w1.frozen? ⟨A, 2, none⟩ = false ∧ A < w1.heap.size ∧ (w1.setCell ⟨A, 2, none⟩ v').cell? ⟨A, 1, none⟩ = some (.map (some V.N)) ∧
      ∃ w3, (∀ ty, (Builtin.delete_ #[56, 9] ty #[.map (some V.N), .string name]).run Tryd.prog (w1.setCell ⟨A, 2, none⟩ v') = .ok (.tuple #[]) w3) ∧ Hid (∃ V', AM B A ⟨S.p, S.nm.eraseIdx (pos S.order name)⟩ V' w3 ∧ Fr (Fp A V) w w3 ∧ (∀ b, Fp A V' b → Fp A V b) ∧ V'.n = V.n)) := fun q w1 v' ho hg hk => by
    have hb0 := below_drewN (Below.refl w.heap.size w) q
    have hvA : some A ≠ V.vo.ownBlock := fun e => (h.row_ne h.oo (by decide) e.symm).1 rfl
    have hvN : some V.N ≠ V.vo.ownBlock := fun e => (h.row_ne h.oo (by decide) e.symm).2.2 rfl
    have bA := (h.ba.below hb0 h.ba.lt).grown hg hvA
    have bA2 := bA.put 2 v'
    have mN := ((h.mn.later hb0).kept hg hvN).setCell (a := ⟨A, 2, none⟩) h.ne_A.2 v'
    obtain ⟨w3, r3, m3, g3⟩ := mN.del lawS Tryd.underlying56 (keyS name (by unfold maxLen; omega)) 9
    refine ⟨bA.cell 2, bA.frozen 2, bA.lt, bA2.cell 1, w3, fun ty => ?_, ?_⟩
    · exact r3
    · obtain ⟨q1, q2, q3⟩ := h.dropName (pos S.order name) p1 hS.nodup hb0 ho hg hk (by rw [hge]; exact m3) g3
      exact ⟨_, q1, q2, q3, rfl⟩
  have cA := h.ba.cell 2
  simp only [List.getElem?_toArray, List.getElem?_cons_zero, List.getElem?_cons_succ] at cA
  have lA := h.ba.lt
  have hps : pos S.order name ≤ 1000000 := by omega
  generalize hD : DropOk B A S V (pos S.order name) w = Post at *
  have HPD := HP.out (pos S.order name)
  rw [hD] at HPD
  have HPD := Lib.hid HPD
  generalize pos S.order name = ps at *
  clear h hS hin hD HP hge p1 p2
  obtain ⟨nw, hnw⟩ : ∃ nw, w.heap.size = nw := ⟨_, rfl⟩
  go_enter Tryd.func12, Tryd.ntmps12
  go_wp2_with fail
  refine HSr.out.mono ?_; rintro e w' ⟨rfl, q, rfl⟩
  go_wp2_with fail
  refine (HDl.out q).mono ?_; rintro e w1 ⟨v', rfl, ho1, hg1, hk1⟩
  obtain ⟨Ai, ci, rfl⟩ := own_form ho1
  obtain ⟨c1, c2, c3, c4, w3, r3, hfin⟩ := HFin.out q w1 _ ho1 hg1 hk1
  clear ho1 hg1 hk1
  go_wp2
  rw [HPD.out]
  obtain ⟨V', a, b, c, d⟩ := hfin.out
  exact ⟨V', rfl, a, b, c, d⟩
end Go.Proofs.YtpfkmjckjomeeaaDoor
