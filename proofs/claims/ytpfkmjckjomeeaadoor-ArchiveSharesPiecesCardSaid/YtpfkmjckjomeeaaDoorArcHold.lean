/- The walk of holds. -/
import Derived.Test.YtpfkmjckjomeeaaDoorArcFill
namespace Go.Proofs.YtpfkmjckjomeeaaDoor
open Go.RowKit Arc
open Go.Maps (Keyed)
theorem cat_back (s : ByteArray) : (⟨(cat (parts s)).toArray⟩ : ByteArray) = s := by
  rw [parts_cat]
/-- Get at data that an archive has. -/
theorem get_has {B A : Nat} {S : St} {V : AV} {d : List (ByteArray × ByteArray)} (w : World) (h : AM B A S V w) (hd : S.Has d) (k : Nat) (x : ByteArray × ByteArray) (hx : d[k]? = some x) (h1 : x.1.size ≤ 1000) (h2 : x.2.size ≤ 16384) :
    Calls Tryd.prog 17 #[.pointer (some ⟨A, 0, none⟩), .string x.1] w fun e w' => e = .returned (.tuple #[.string x.2, .int .i64 0]) ∧ Below w.heap.size w w' := by
  have hlen : S.nm.length = d.length := by
    have := congrArg List.length hd.nm
    simpa [St.order] using this
  have hk := (List.getElem?_eq_some_iff.1 hx).1
  have hk2 : k < S.nm.length := by omega
  obtain ⟨a, b⟩ := hd.en k _ x (List.getElem?_eq_getElem hk2) hx
  have hn : S.nm[k].1 = x.1 := by
    have e := congrArg (fun l => l[k]?) hd.nm
    simp only [St.order, List.getElem?_map, List.getElem?_eq_getElem hk2, hx, Option.map_some, Option.some.injEq] at e
    exact e
  have hg := get_some S.nm[k] (parts x.2) w h (List.getElem_mem hk2) b (by have := parts_length x.2; omega) (fun s hs => (parts_pos hs).2) (by rw [hn]; exact h1)
  rw [hn] at hg
  refine hg.mono fun e w' ⟨he, hb⟩ => ⟨?_, hb⟩
  rw [he, cat_back]
set_option maxRecDepth 100000 in
set_option maxHeartbeats 8000000 in
theorem holds_any {B A : Nat} {S : St} {V : AV} {d : List (ByteArray × ByteArray)} (os : List ByteArray) (v : Value) (ok : Nat → Prop) (w : World) (h : AM B A S V w) (hd : S.Has d) (hsl : Sl w ok v (strs os)) (hl : os.length ≤ 12)
    (hh : ∀ i : Nat, i < os.length → (∃ k : Nat, d[k]? = some (nm i, os.getD i ByteArray.empty)) ∧ (os.getD i ByteArray.empty).size ≤ 16384 ∨ (nm i ∉ S.order ∧ os.getD i ByteArray.empty = ByteArray.empty)) :
    Calls Tryd.prog 19 #[.pointer (some ⟨A, 0, none⟩), v] w fun e w' => e = .returned (.bool true) ∧ Below w.heap.size w w' := by
  have HA := Lib.hid h
  have HD := Lib.hid hd
  have HSl := Lib.hid hsl
  have HH := Lib.hid hh
  obtain ⟨Ad, cd, rfl⟩ := hsl.form
  have hdl : (strs os).length = os.length := by simp [strs]
  rw [hdl]
  obtain ⟨n, hn⟩ : ∃ n, os.length = n := ⟨_, rfl⟩
  rw [hn] at hl ⊢
  have HN := Lib.hid hn
  clear h hd hsl hh hdl hn
  go_enter Tryd.func19, Tryd.ntmps19
  go_wp2
  go_loopw [11] (fun v11 wr => ∃ i : Nat, i ≤ n ∧ v11 = .int .i64 (i : Int) ∧ Below w.heap.size w wr) (fun v11 _ => n - (intOf v11).toNat)
  case atStart => exact ⟨0, by omega, rfl, Below.refl _ _⟩
  case round =>
    obtain ⟨i, hi, rfl, hb⟩ := hrel
    have HB := Lib.hid hb
    by_cases hlt : i < n
    · obtain ⟨bd, od, had, hbd, hcd⟩ := (HSl.out.later hb).plainA (by simp [strs]; have := HN.out; omega)
      subst had
      have hcell := hcd i _ (strs_get os i (by have := HN.out; omega))
      have HHi := Lib.hid (HH.out i (by have := HN.out; omega))
      generalize os.getD i ByteArray.empty = s at hcell HHi
      have hcv := conv_nm wr i (by omega)
      have hcat := nm_cat i
      have hlow : w.heap.size ≤ wr.heap.size := HB.out.size
      have HB2 := Lib.hid (HB.out.alloc hlow (Obj.cells #[.int .u8 (97 + (i : Int))] 5))
      have HAM := Lib.hid (HA.out.later HB2.out)
      clear hb hcd
      rcases HHi.out with ⟨⟨k, hk⟩, hs2⟩ | ⟨hno, hse⟩
      · have HG := Lib.hid (get_has _ HAM.out HD.out k _ hk (by rw [nm_size]; decide) hs2)
        dsimp only at HG
        clear hk
        go_wp2_with fail
        refine HG.out.mono ?_; rintro e w2 ⟨rfl, hb3⟩
        have HB3 := Lib.hid (HB2.out.trans (hb3.mono HB2.out.size))
        clear hb3 HG hcv hcat
        go_wp2
        refine ⟨⟨i + 1, by omega, by go_num, HB3.out⟩, by simp [intOf]; omega⟩
      · subst hse
        have HG := Lib.hid (get_none (nm i) _ HAM.out (by rw [nm_size]; decide) hno)
        clear hno
        go_wp2_with fail
        refine HG.out.mono ?_; rintro e w2 ⟨rfl, hb3⟩
        have HB3 := Lib.hid (HB2.out.trans (hb3.mono HB2.out.size))
        clear hb3 HG hcv hcat
        go_wp2
        refine ⟨⟨i + 1, by omega, by go_num, HB3.out⟩, by simp [intOf]; omega⟩
    · obtain rfl : i = n := by omega
      go_wp2
      go_ret
      exact ⟨rfl, HB.out⟩
end Go.Proofs.YtpfkmjckjomeeaaDoor
