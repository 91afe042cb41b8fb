/- The walk of Cuts. -/
import Derived.Test.YtpfkmjckjomeeaaDoorArcCut
import Derived.Lib.Strings
namespace Go.Proofs.YtpfkmjckjomeeaaDoor
open Go.RowKit Arc
theorem eInt : ElemT Tryd.prog 23 3 (.int .i64 0) 8 := ElemT.mk_ Tryd.underlying23 (by kernel_rfl) rfl
/-- Lengths as values. -/
def nats (l : List Nat) : List Value := l.map fun (n : Nat) => Value.int .i64 (n : Int)
theorem nats_snoc (l : List Nat) (n : Nat) : nats (l ++ [n]) = nats l ++ [.int .i64 (n : Int)] := by simp [nats]
def szOf : Value → Nat
  | .string s => s.size
  | _ => 0
theorem take_succ_getD (l : List Nat) {j : Nat} (h : j < l.length) : l.take (j + 1) = l.take j ++ [l.getD j 0] := by
  rw [List.take_succ_eq_append_getElem h, List.getD_eq_getElem?_getD, List.getElem?_eq_getElem h]; rfl
theorem not_empty {r : ByteArray} (h : 0 < r.size) : r.toList.isEmpty = false := by
  rw [Lib.toList_data]
  cases hd : r.data.toList with
  | nil =>
    have : r.data.toList.length = 0 := by rw [hd]; rfl
    rw [Array.length_toList, ByteArray.size_data] at this; omega
  | cons a b => rfl
theorem is_empty {r : ByteArray} (h : r.size = 0) : r.toList.isEmpty = true := by
  rw [Lib.toList_data]
  have : r.data.toList.length = 0 := by rw [Array.length_toList, ByteArray.size_data]; exact h
  rw [List.length_eq_zero_iff.1 this]; rfl
def CutsOk (s : ByteArray) (w : World) (e : Ending) (w' : World) : Prop :=
  ∃ v, e = .returned (.tuple #[v, .int .i64 0]) ∧ w'.ownsRow w.heap.size 3 1 v (cuts s).length (nats (cuts s)) ∧ Below w.heap.size w w'
set_option maxHeartbeats 4000000 in
theorem cuts_large (s : ByteArray) (w : World) (hm : s.size ≤ maxLen) (hs : 16384 < s.size) :
    Calls Tryd.prog 8 #[.string s] w fun e w' => e = .returned (.tuple #[.slice none 0 0, .int .i64 2]) ∧ w = w' := by
  unfold maxLen at hm
  go_enter Tryd.func8, Tryd.ntmps8
  go_wp2
  go_ret2
  exact ⟨rfl, rfl⟩
set_option maxRecDepth 100000 in
set_option maxHeartbeats 4000000 in
theorem cuts_any (s : ByteArray) (w : World) (hs : s.size ≤ 16384) :
    Calls Tryd.prog 8 #[.string s] w (CutsOk s w) := by
  have HP : Hid (∀ e w', CutsOk s w e w' = ∃ v, e = .returned (.tuple #[v, .int .i64 0]) ∧ w'.ownsRow w.heap.size 3 1 v (cuts s).length (nats (cuts s)) ∧ Below w.heap.size w w') := fun _ _ => rfl
  generalize CutsOk s w = Post at *
  obtain ⟨n, hn⟩ : ∃ n, (cuts s).length = n := ⟨_, rfl⟩
  have HN := Lib.hid hn
  have hle : n ≤ 16384 := by
    have key : ∀ k (s : ByteArray), s.size ≤ k → (cuts s).length ≤ s.size := by
      intro k
      induction k with
      | zero => intro s h; rw [cuts_nil (by omega)]; simp
      | succ k ih =>
        intro s h
        by_cases h0 : s.size = 0
        · rw [cuts_nil h0]; simp
        · rw [cuts_cons (by omega), List.length_cons]
          have hp := cutN_pos (l := s.data.toList) (by rw [Array.length_toList, ByteArray.size_data]; omega)
          have := ih (s.extract (cutN s.data.toList) s.size) (by rw [size_rest]; omega)
          rw [size_rest] at this; omega
    have := key _ s (Nat.le_refl _); omega
  have HRs : Hid (∀ j, (rest (cuts s) s j).size ≤ 16384) := fun j => by
    have key : ∀ (l : List Nat) (s : ByteArray) j, (rest l s j).size ≤ s.size := by
      intro l
      induction l with
      | nil => intro s j; cases j <;> exact Nat.le_refl _
      | cons a r ih =>
        intro s j
        cases j with
        | zero => exact Nat.le_refl _
        | succ j => exact Nat.le_trans (ih _ j) (by rw [ByteArray.size_extract]; omega)
    exact Nat.le_trans (key _ s j) hs
  have HG : Hid (∀ j, j < n → 1 ≤ (cuts s).getD j 0 ∧ (cuts s).getD j 0 ≤ (rest (cuts s) s j).size ∧ rest (cuts s) s (j + 1) = (rest (cuts s) s j).extract ((cuts s).getD j 0) (rest (cuts s) s j).size ∧ (cuts s).take (j + 1) = (cuts s).take j ++ [(cuts s).getD j 0] ∧ cutN (rest (cuts s) s j).data.toList = (cuts s).getD j 0) := fun j hj => by
    have hj' : j < (cuts s).length := by rw [hn]; exact hj
    obtain ⟨a, b, c, _⟩ := cuts_get hj'
    refine ⟨a, b, rest_succ _ _ _ hj', take_succ_getD _ hj', ?_⟩
    have h1 := rest_cuts s j (by omega)
    rw [cuts_cons (by omega), List.drop_eq_getElem_cons hj'] at h1
    rw [List.getD_eq_getElem?_getD, List.getElem?_eq_getElem hj']
    exact (List.cons.inj h1).1
  have HE : Hid ((rest (cuts s) s n).size = 0) := by rw [← hn]; exact rest_end s
  have hr0 : rest (cuts s) s 0 = s := by cases cuts s <;> rfl
  have HR0 := Lib.hid hr0
  clear hn hr0
  go_enter Tryd.func8, Tryd.ntmps8
  go_wp2
  go_loopw [0, 4] (fun v0 v4 wr => ∃ j : Nat, j ≤ n ∧ v0 = .string (rest (cuts s) s j) ∧ wr.ownsRow w.heap.size 3 1 v4 j (nats ((cuts s).take j)) ∧ Below w.heap.size w wr) (fun v0 _ _ => szOf v0)
  case atStart => exact ⟨0, by omega, by rw [HR0.out], by rw [List.take_zero]; exact World.ownsRow_nil _ _ _ _, Below.refl _ _⟩
  case round =>
    obtain ⟨j, hj, rfl, ho, hb⟩ := hrel
    have hrs := HRs.out j
    by_cases hlt : j < n
    · obtain ⟨g1, g2, g3, g4, g5⟩ := HG.out j hlt
      have G3 := Lib.hid g3
      have G4 := Lib.hid g4
      clear g3 g4
      generalize rest (cuts s) s j = r at *
      generalize (cuts s).getD j 0 = m at *
      have HCt : Hid (∀ w, Calls Tryd.prog 23 #[.string r] w fun e w' => e = .returned (.int .i64 (m : Nat)) ∧ w = w') := fun w => by rw [← g5]; exact cut_any r w hrs
      have hq := not_empty (r := r) (by omega)
      have HO := Lib.hid ho
      have HB := Lib.hid hb
      have hsz := hb.size
      clear g5 ho hb
      go_wp2_with (first | (go_at_call 23; refine (HCt.out _).mono ?_; rintro e w' ⟨rfl, rfl⟩) | (at_builtin; refine wpList_push eInt rfl (.tmp 13) (.tmp 15) rfl w.heap.size u4 j _ rfl (HO.out.alloc _) ⟨wr.heap.size, 0, none⟩ 1 (.int .i64 (m : Int)) rfl (new_one _ _ _) rfl (by omega) (by omega) (by simp; omega) ?_; intro v5 w5 ho5 hg5 hk5; have HO5 := Lib.hid ho5; have HB5 := Lib.hid ((HB.out.alloc hsz (Obj.cells #[.int .i64 (m : Int)] 3)).grown hg5 (by simp; omega) (fun k hk => (own_lt HO.out k hk).1)); clear ho5 hg5 hk5))
      refine ⟨⟨j + 1, by omega, by rw [G3.out], ?_, HB5.out⟩, ?_⟩
      · rw [G4.out, nats_snoc]; exact HO5.out
      · show (r.extract m r.size).size < r.size
        rw [ByteArray.size_extract]; omega
    · obtain rfl : j = n := by omega
      have hq := is_empty HE.out
      rw [List.take_of_length_le (by rw [HN.out]; exact Nat.le_refl _)] at ho
      have HO := Lib.hid ho
      have HB := Lib.hid hb
      clear ho hb
      generalize rest (cuts s) s j = r at *
      go_wp2
      rw [HP.out]
      exact ⟨_, rfl, by rw [HN.out]; exact HO.out, HB.out⟩
end Go.Proofs.YtpfkmjckjomeeaaDoor
