/- The walks of filled and holds. -/
import Derived.Test.YtpfkmjckjomeeaaDoorArcStores
namespace Go.Proofs.YtpfkmjckjomeeaaDoor
open Go.RowKit Arc
open Go.Maps (Keyed)
namespace Arc
/-- The name of number i. -/
def letter (i : Nat) : UInt8 := UInt8.ofNat (97 + i)
def nm (i : Nat) : ByteArray := ⟨#[110, letter i]⟩
theorem nm_cat (i : Nat) : (⟨#[110]⟩ : ByteArray) ++ ⟨#[letter i]⟩ = nm i := by
  unfold nm; apply ByteArray.ext; rw [ByteArray.data_append]; rfl
/-- Those of the first i data that are short enough, under their names. -/
def kept (ds : List ByteArray) (i : Nat) : List (ByteArray × ByteArray) := (List.range i).filterMap fun j => if (ds.getD j ByteArray.empty).size ≤ 16384 then some (nm j, ds.getD j ByteArray.empty) else none
theorem kept_succ (ds : List ByteArray) (i : Nat) : kept ds (i + 1) = if (ds.getD i ByteArray.empty).size ≤ 16384 then kept ds i ++ [(nm i, ds.getD i ByteArray.empty)] else kept ds i := by
  unfold kept
  rw [List.range_succ, List.filterMap_append]
  split
  · rename_i h; simp only [List.filterMap_cons, if_pos h, List.filterMap_nil]
  · rename_i h; simp only [List.filterMap_cons, if_neg h, List.filterMap_nil, List.append_nil]
theorem mem_kept {ds : List ByteArray} {i : Nat} {x : ByteArray × ByteArray} (h : x ∈ kept ds i) : ∃ j, j < i ∧ x.1 = nm j ∧ x.2 = ds.getD j ByteArray.empty ∧ x.2.size ≤ 16384 := by
  unfold kept at h
  obtain ⟨j, hj, e⟩ := List.mem_filterMap.1 h
  split at e
  · rename_i h2
    injection e with e; subst e
    exact ⟨j, List.mem_range.1 hj, rfl, rfl, h2⟩
  · cases e
theorem kept_length (ds : List ByteArray) (i : Nat) : (kept ds i).length ≤ i := by
  unfold kept
  have := List.length_filterMap_le (fun j => if (ds.getD j ByteArray.empty).size ≤ 16384 then some (nm j, ds.getD j ByteArray.empty) else none) (List.range i)
  simpa using this
theorem nm_less (j i : Nat) (hi : i < 12) (hj : j < i) : less (nm j) (nm i) = true :=
  (by decide : ∀ i : Fin 12, ∀ j : Fin 12, j.val < i.val → less (nm j.val) (nm i.val) = true) ⟨i, hi⟩ ⟨j, by omega⟩ hj
theorem nm_size (i : Nat) : (nm i).size = 2 := rfl
theorem total_kept (ds : List ByteArray) (i : Nat) : total (kept ds i) ≤ 16384 * i := by
  have : total (kept ds i) ≤ 16384 * (kept ds i).length := by
    unfold total
    have h := sum_le_of (kept ds i) (fun x => x.2.size) (fun _ => 16384) fun x hx => (mem_kept hx).choose_spec.2.2.2
    have e : ((kept ds i).map fun _ => 16384).sum = 16384 * (kept ds i).length := by
      induction kept ds i with
      | nil => rfl
      | cons a r ih => simp only [List.map_cons, List.sum_cons, List.length_cons, ih]; omega
    omega
  have := kept_length ds i
  have : 16384 * (kept ds i).length ≤ 16384 * i := Nat.mul_le_mul_left _ this
  omega
theorem kept_srt (ds : List ByteArray) (i : Nat) (hi : i ≤ 12) : Srt (build (kept ds i)).order := by
  rw [(build_has _).nm]
  induction i with
  | zero => exact Srt.nil
  | succ i ih =>
    have h := ih (by omega)
    rw [kept_succ]
    split
    · rw [List.map_append]
      refine Srt.snoc h fun y hy => ?_
      obtain ⟨x, hx, rfl⟩ := List.mem_map.1 hy
      obtain ⟨j, hj, e, _⟩ := mem_kept hx
      rw [e]; exact nm_less j i (by omega) hj
    · exact h
/-- What filled tells of the first i data. -/
def outs (ds : List ByteArray) (i : Nat) : List ByteArray := (List.range i).map fun j => if (ds.getD j ByteArray.empty).size ≤ 16384 then ds.getD j ByteArray.empty else ByteArray.empty
theorem outs_succ (ds : List ByteArray) (i : Nat) : outs ds (i + 1) = outs ds i ++ [if (ds.getD i ByteArray.empty).size ≤ 16384 then ds.getD i ByteArray.empty else ByteArray.empty] := by
  unfold outs; rw [List.range_succ, List.map_append]; rfl
theorem outs_length (ds : List ByteArray) (i : Nat) : (outs ds i).length = i := by simp [outs]
end Arc
theorem conv_nm (w : World) (i : Nat) (hi : i < 12) : (convert 35 9 (.slice (some ⟨w.heap.size, 0, none⟩) 1 1)).run Tryd.prog (w.alloc (Obj.cells #[.int .u8 (97 + (i : Int))] 5)) = .ok (.string ⟨#[letter i]⟩) (w.alloc (Obj.cells #[.int .u8 (97 + (i : Int))] 5)) := by
  have e : (97 + (i : Int)) = ((letter i).toNat : Int) := by
    unfold letter; rw [UInt8.toNat_ofNat']; omega
  refine run_convert_bytes_back (P := Tryd.prog) (w.alloc (Obj.cells #[.int .u8 (97 + (i : Int))] 5)) 35 9 5 ⟨w.heap.size, 0, none⟩ 1 [letter i] Tryd.underlying35 Tryd.underlying5 Tryd.underlying9 fun j hj => ?_
  obtain rfl : j = 0 := by simpa using hj
  rw [e]
  exact new_one _ _ _
/-- A row of strings of the call's own is appended to: the archive stays. -/
theorem AM.beside {B A : Nat} {S : St} {V : AV} {w w' : World} (h : AM B A S V w) {base n : Nat} {v : Value} {xs : List Value} (ho : w.ownsRow base 9 1 v n xs) (hsep : ∀ b, v.ownBlock = some b → ¬ Fp A V b) {ok : Nat → Prop} (hf : Fr ok w w') (hok : ∀ b, b < w.heap.size → ok b → v.ownBlock = some b) : AM B A S V w' :=
  h.keep (ok := fun b => v.ownBlock = some b) (hf.mono hok) (fun b e e2 => hsep b e2 e) fun x hx vk va e b hb e2 => by
    obtain ⟨vk', va', e', o1, o2⟩ := h.en x hx
    rw [e] at e'
    injection e' with e'
    have e1 := congrArg (fun a : Array Value => a[0]?) e'
    have e3 := congrArg (fun a : Array Value => a[1]?) e'
    simp at e1 e3
    subst e1 e3
    rcases hb with hb | hb
    · exact own_apart o1 ho (by decide) hb e2
    · exact own_apart o2 ho (by decide) hb e2
structure FillR (ds : List ByteArray) (w : World) (A i : Nat) (V1 : AV) (v : Value) (wr : World) : Prop where
  am : AM w.heap.size A (build (kept ds i)) V1 wr
  row : wr.ownsRow w.heap.size 9 1 v i (strs (outs ds i))
  sep : ∀ b, v.ownBlock = some b → ¬ Fp A V1 b
  bl : Below w.heap.size w wr
  n : V1.n ≤ 20000 * i
theorem fill_push {ds : List ByteArray} {w w2 w5 : World} {A i : Nat} {V2 : AV} {v v5 : Value} {s : ByteArray} (am : AM w.heap.size A (build (kept ds (i + 1))) V2 w2) (row : w2.ownsRow w.heap.size 9 1 v i (strs (outs ds i))) (sep : ∀ b, v.ownBlock = some b → ¬ Fp A V2 b) (bl : Below w.heap.size w w2)
    (ho : outs ds (i + 1) = outs ds i ++ [s]) (hn : V2.n ≤ 20000 * (i + 1)) (ho5 : w5.ownsRow w.heap.size 9 1 v5 (i + 1) (strs (outs ds i) ++ [.string s])) (hg5 : (w2.alloc (Obj.cells #[.string s] 9)).grownBy w5 v.ownBlock) (hk5 : v5.ownBlock = v.ownBlock ∨ v5.ownBlock = some (w2.alloc (Obj.cells #[.string s] 9)).heap.size) : FillR ds w A (i + 1) V2 v5 w5 := by
  have hb := (Below.refl w2.heap.size w2).alloc (Nat.le_refl _) (Obj.cells #[.string s] 9)
  refine ⟨(am.later hb).beside (row.alloc _) sep (Fr.of_grown (ok := fun b => v.ownBlock = some b) hg5 fun b e => e) fun b _ e => e, by rw [ho, strs_snoc]; exact ho5, fun b e e2 => ?_, ?_, hn⟩
  · rcases hk5 with h | h
    · exact sep b (h ▸ e) e2
    · rw [h] at e
      have := Option.some.inj e
      have h2 := (am.fp_lt e2).2
      simp at this; omega
  · exact (bl.alloc bl.size _).grown hg5 (by have := bl.size; simp; omega) fun k hk => (own_lt row k hk).1
def FillOk (ds : List ByteArray) (n : Nat) (w : World) (e : Ending) (w' : World) : Prop := ∃ A V v, e = .returned (.tuple #[.pointer (some ⟨A, 0, none⟩), v]) ∧ FillR ds w A n V v w'
set_option maxRecDepth 100000 in
set_option maxHeartbeats 8000000 in
theorem filled_any (ds : List ByteArray) (v : Value) (ok : Nat → Prop) (w : World) (hT : Tab w) (h1 : 1 ≤ w.heap.size) (hsl : Sl w ok v (strs ds)) (hms : ∀ j, (ds.getD j ByteArray.empty).size ≤ maxLen) :
    Calls Tryd.prog 11 #[v] w (FillOk ds (min ds.length 12) w) := by
  have HP : Hid (∀ e w', FillOk ds (min ds.length 12) w e w' = ∃ A V v, e = .returned (.tuple #[.pointer (some ⟨A, 0, none⟩), v]) ∧ FillR ds w A (min ds.length 12) V v w') := fun _ _ => rfl
  generalize FillOk ds (min ds.length 12) w = Post at *
  have HT := Lib.hid hT
  have HSl := Lib.hid hsl
  have HMs := Lib.hid hms
  obtain ⟨Ad, cd, rfl⟩ := hsl.form
  have hcl := hsl.cap_le
  have hdl : (strs ds).length = ds.length := by simp [strs]
  rw [hdl] at hcl
  obtain ⟨-, hcl1, hcl2⟩ := hcl
  unfold maxLen at hcl2
  rw [hdl]
  clear hT hsl hms hdl
  obtain ⟨L, hL⟩ : ∃ L, ds.length = L := ⟨_, rfl⟩
  have HL := Lib.hid hL
  rw [hL] at hcl1 HP ⊢
  clear hL
  obtain ⟨n, hn⟩ : ∃ n, min L 12 = n := ⟨_, rfl⟩
  have emin : min (L : Int) 12 = (n : Int) := by omega
  have hn12 : n ≤ 12 := by omega
  have hnL : n ≤ L := by omega
  rw [hn] at HP
  clear hn
  go_enter Tryd.func11, Tryd.ntmps11
  go_wp2_with fail
  refine (new_any w).mono ?_; rintro e w1 ⟨A, V, rfl, am, hb1, hvn⟩
  have R0 : Hid (FillR ds w A 0 V (.slice none 0 0) w1) := ⟨am, World.ownsRow_nil _ _ _ _, fun b e => by simp [Value.ownBlock] at e, hb1, by omega⟩
  clear am hb1 hvn
  go_wp2
  go_loopw [17, 5] (fun v17 v5 wr => ∃ (i : Nat) (V1 : AV), i ≤ n ∧ v17 = .int .i64 (i : Int) ∧ FillR ds w A i V1 v5 wr) (fun v17 _ _ => n - (intOf v17).toNat)
  case atStart => exact ⟨0, V, by omega, rfl, R0.out⟩
  case round =>
    obtain ⟨i, V1, hi, rfl, fr⟩ := hrel
    have FR := Lib.hid fr
    obtain ⟨Ao, co, rfl⟩ := own_form fr.row
    have hb := fr.bl
    clear fr
    by_cases hlt : i < n
    · have hiL : i < L := by omega
      obtain ⟨bd, od, had, hbd, hcd⟩ := (HSl.out.later hb).plainA (by simp [strs]; have := HL.out; omega)
      subst had
      have hcell := hcd i _ (strs_get ds i (by have := HL.out; omega))
      have hsz := HMs.out i
      have HDi := Lib.hid (rfl : ds.getD i ByteArray.empty = ds.getD i ByteArray.empty)
      generalize hs : ds.getD i ByteArray.empty = s at hcell hsz
      have HS := Lib.hid hs
      clear hs HDi hcd
      have HB := Lib.hid hb
      clear hb
      have hcv := conv_nm wr i (by omega)
      have hcat := nm_cat i
      have hlow : w.heap.size ≤ wr.heap.size := HB.out.size
      have HAM := Lib.hid (FR.out.am.later ((Below.refl wr.heap.size wr).alloc (Nat.le_refl _) (Obj.cells #[.int .u8 (97 + (i : Int))] 5)))
      have HRw := Lib.hid (FR.out.row.alloc (Obj.cells #[.int .u8 (97 + (i : Int))] 5))
      have HTb := Lib.hid (tab_keep (ok := fun _ => False) HT.out (.of_below (HB.out.alloc hlow (Obj.cells #[.int .u8 (97 + (i : Int))] 5))) id (by omega))
      have HB2 := Lib.hid (HB.out.alloc hlow (Obj.cells #[.int .u8 (97 + (i : Int))] 5))
      by_cases hsm : s.size ≤ 16384
      · have hks : kept ds (i + 1) = kept ds i ++ [(nm i, s)] := by rw [kept_succ, HS.out, if_pos hsm]
        have hos : outs ds (i + 1) = outs ds i ++ [s] := by rw [outs_succ, HS.out, if_pos hsm]
        have HKs := Lib.hid hks
        have HOs := Lib.hid hos
        have hord := (build_has (kept ds i)).nm
        have hgood : Good (nm i) := ⟨by rw [nm_size]; decide, by rw [nm_size]; decide, (by decide : ∀ i : Fin 12, ∀ (q : Nat) (h : q < (nm i.val).size), 97 ≤ (nm i.val)[q].toNat ∧ (nm i.val)[q].toNat ≤ 122) ⟨i, by omega⟩⟩
        have hln : (build (kept ds i)).order.length < 64 := by rw [hord, List.length_map]; have := kept_length ds i; omega
        have hless0 : ∀ y ∈ (build (kept ds i)).order, less y (nm i) = true := fun y hy => by
          rw [hord] at hy
          obtain ⟨x, hx, e⟩ := List.mem_map.1 hy
          obtain ⟨q, hq, e2, _⟩ := mem_kept hx
          rw [← e, e2]; exact nm_less q i (by omega) hq
        have hless : ∀ j, j < (build (kept ds i)).order.length → less ((build (kept ds i)).order.getD j ByteArray.empty) (nm i) = true := fun j hj => by
          refine hless0 _ ?_
          rw [List.getD_eq_getElem?_getD, List.getElem?_eq_getElem hj]; exact List.getElem_mem hj
        have HPut := Lib.hid (put_new (nm i) s _ HAM.out HTb.out h1 hgood hsm (by have := FR.out.n; omega) hless hln)
        clear hks hos hord hgood hln hless hless0
        go_wp2_with fail
        refine HPut.out.mono ?_; rintro e w2 ⟨V2, rfl, am2, fr2, fn2, n2⟩
        have HRow2 : Hid (w2.ownsRow w.heap.size 9 1 (.slice Ao i co) i (strs (outs ds i))) := fr2.own HRw.out FR.out.sep
        have HAM2 : Hid (AM w.heap.size A (build (kept ds (i + 1))) V2 w2) := by rw [HKs.out, build_snoc]; exact am2
        have HB3 : Hid (Below w.heap.size w w2) := HB2.out.trans (fr2.below (fun b e => (HAM.out.fp_lt e).1) HB2.out.size)
        have hs2 : wr.heap.size + 1 ≤ w2.heap.size := by have := fr2.size; simpa using this
        have HSep : Hid (∀ b, (Value.slice Ao i co).ownBlock = some b → ¬ Fp A V2 b) := fun b hb e => by
          rcases fn2 b e with e | e
          · exact FR.out.sep b hb e
          · have := (own_lt FR.out.row b hb).2; simp at e; omega
        clear am2 fr2 fn2 HPut
        go_wp2_with (at_builtin; refine wpList_push eStr rfl (.tmp 32) (.tmp 34) rfl w.heap.size (.slice Ao i co) i _ rfl (HRow2.out.alloc _) ⟨w2.heap.size, 0, none⟩ 1 (.string s) rfl (new_one _ _ _) rfl (by omega) (by omega) (by simp; omega) ?_; intro v5 w5 ho5 hg5 hk5; have HF := fill_push HAM2.out HRow2.out HSep.out HB3.out HOs.out (by have := FR.out.n; omega) ho5 hg5 hk5; have HF := Lib.hid HF; clear ho5 hg5 hk5)
        refine ⟨⟨i + 1, V2, by omega, by go_num, HF.out⟩, by simp [intOf]; omega⟩
      · have hks : kept ds (i + 1) = kept ds i := by rw [kept_succ, HS.out, if_neg hsm]
        have hos : outs ds (i + 1) = outs ds i ++ [ByteArray.empty] := by rw [outs_succ, HS.out, if_neg hsm]
        have HKs := Lib.hid hks
        have HOs := Lib.hid hos
        have HPut := Lib.hid (put_large (A := A) (nm i) s (wr.alloc (Obj.cells #[.int .u8 (97 + (i : Int))] 5)) hsz (by omega))
        clear hks hos
        go_wp2_with fail
        refine HPut.out.mono ?_; rintro e w2 ⟨rfl, rfl⟩
        have HAM2 : Hid (AM w.heap.size A (build (kept ds (i + 1))) V1 (wr.alloc (Obj.cells #[.int .u8 (97 + (i : Int))] 5))) := by rw [HKs.out]; exact HAM.out
        clear HPut
        generalize wr.alloc (Obj.cells #[.int .u8 (97 + (i : Int))] 5) = w2 at *
        have hs2 : w.heap.size ≤ w2.heap.size := HB2.out.size
        go_wp2_with (at_builtin; refine wpList_push eStr rfl (.tmp 36) (.tmp 37) rfl w.heap.size (.slice Ao i co) i _ rfl (HRw.out.alloc _) ⟨w2.heap.size, 0, none⟩ 1 (.string ⟨#[]⟩) rfl (new_one _ _ _) rfl (by omega) (by omega) (by simp; omega) ?_; intro v5 w5 ho5 hg5 hk5; have HF := fill_push HAM2.out HRw.out FR.out.sep HB2.out HOs.out (by have := FR.out.n; omega) ho5 hg5 hk5; have HF := Lib.hid HF; clear ho5 hg5 hk5)
        refine ⟨⟨i + 1, V1, by omega, by go_num, HF.out⟩, by simp [intOf]; omega⟩
    · obtain rfl : i = n := by omega
      have HFin : Hid (Post (.returned (.tuple #[.pointer (some ⟨A, 0, none⟩), .slice Ao i co])) wr) := by rw [HP.out]; exact ⟨A, V1, _, rfl, FR.out⟩
      go_wp2
      exact HFin.out
end Go.Proofs.YtpfkmjckjomeeaaDoor
