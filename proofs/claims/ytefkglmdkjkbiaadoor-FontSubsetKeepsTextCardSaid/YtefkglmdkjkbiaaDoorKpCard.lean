/- FontSubsetKeepsText holds: for all arguments the call returns true and the arguments read as before. No condition besides the row's own (the table of the checksum is laid, which the card ties to the program's text). -/
import Derived.Test.YtefkglmdkjkbiaaDoorCards
import Derived.Test.YtefkglmdkjkbiaaDoorTie
import Derived.Test.YtefkglmdkjkbiaaDoorFntKp
import Derived.Test.YtefkglmdkjkbiaaDoorOpenFnt
import Derived.Test.YtefkglmdkjkbiaaDoorOpenInts
import Derived.Test.YtefkglmdkjkbiaaDoorClose
namespace Go.Proofs.YtefkglmdkjkbiaaDoor.lawKp
open Go.ChangeShapes Go.WideShapes Go.ChangeAt Go.RowKit
open Go.ChangeMaps (open_string)

theorem own : ownKnob Tryd.prog.godebug = none := by kernel_rfl
theorem laidOut : laidOutB Tryd.prog = true := by kernel_rfl
theorem gTab : Tryd.prog.globalNamed "printworks/filter.steps" = some 0 := by kernel_rfl
theorem gTabType : (Tryd.prog.globals[0]?).map (·.type) = some 181 := by kernel_rfl
theorem cellsA : Tryd.prog.cellsOf 181 = 16 := by kernel_rfl
theorem cellsU : Tryd.prog.cellsOf 153 = 1 := by kernel_rfl
theorem table {W : World} (h : laidMetH Tryd.prog Rows.fontSubsetKeepsTextRow.laid W) : Tab W := by
  have ht : Lib.TabIs Tryd.prog W "printworks/filter.steps" .u32 (Crc.T.map fun n => ((n : Nat) : Int)) :=
    Lib.tabIs_of_head (rest := []) gTab gTabType Tryd.underlying181 Tryd.underlying153 cellsU cellsA h
  intro i hi
  have := ht.cell gTab i (by simpa [Crc.T] using hi)
  rw [this]
  congr 2
  simp only [List.getD_eq_getElem?_getD, List.getElem?_map]
  cases h : Crc.T[i]? <;> simp
theorem size_pos {W : World} (h : Tab W) : 1 ≤ W.heap.size := World.block_lt_of_cell? W _ (h 0 (by omega))

set_option maxRecDepth 100000 in
theorem contract (H : Type) (enc : TypeId × Value → H) (W : World) (base : Nat) (args : Array Value) (ds gs : List (DataW H)) (before : List MemPlace)
    (hval : ∀ (j : Nat) t v, Tryd.f7.params[j]? = some t → args[j]? = some v → Value.okWide Tryd.prog W .any base t v)
    (hW : DataW.Whole enc Tryd.prog Tryd.f7.params.toList Rows.fontSubsetKeepsTextSpec.vars false W args.toList ds gs before)
    (_hsz : (DataW.weightsEach Tryd.prog (Tryd.f7.params.toList ++ (OpenSpec.ofChange Rows.fontSubsetKeepsTextSpec).bare.plain.varTypes Tryd.prog) (ds ++ gs)).all (· ≤ reachBytes) = true)
    (hL : laidMetH Tryd.prog Rows.fontSubsetKeepsTextRow.laid W)
    (_hshape : W.ShapedOpen Tryd.prog) :
    Calls Tryd.prog 7 args W fun e W' => ∃ v, e = .returned v ∧ Rows.fontSubsetKeepsTextSpec.post enc Tryd.prog Tryd.f7 false true false false W args v W' := by
  have hW' := hW
  obtain ⟨p, q, hA0, hV, hpq, hfz, hnd⟩ := hW
  have hA : DataW.TrodAll enc Tryd.prog W 0 (fun _ => true) true Tryd.f7.params.toList args.toList ds p := hA0
  rw [Tryd.params7] at hA hval
  obtain ⟨v0, vs0, d0, ds0, p0, q0, hargs, rfl, rfl, h0, r0⟩ := trodAll_cons hA
  obtain ⟨v1, vs1, d1, ds1, p1, q1, rfl, rfl, rfl, h1, r1⟩ := trodAll_cons r0
  obtain ⟨v2, vs2, d2, ds2, p2, q2, rfl, rfl, rfl, h2, r2⟩ := trodAll_cons r1
  obtain ⟨rfl, rfl, rfl⟩ := trodAll_nil r2
  obtain rfl : args = #[v0, v1, v2] := by cases args; simp_all
  obtain ⟨rfl, rfl⟩ := trodVars_none hV
  obtain ⟨F0, hf0⟩ := open_font (hval 0 26 v0 rfl rfl) h0
  obtain ⟨a1, len1, cap1, rfl⟩ := Go.WideShapes.okWide_slice Tryd.underlying27 (hval 1 27 v1 rfl rfl)
  obtain ⟨fuel1, hf1⟩ := h1
  obtain ⟨A1, c1, zs1, hv1, hsl1, _⟩ := open_ints (n := fuel1) (by simpa [Value.cells] using hf1)
  obtain ⟨x2, rfl, rfl, rfl, w2⟩ := open_int Tryd.underlying3 (hval 2 3 v2 rfl rfl) h2
  have hr := reachBytes_lt
  clear hA0
  have walk : Calls Tryd.prog 7 #[_, _, .int .i64 x2] W fun e W' => e = .returned (.bool true) ∧ Below W.heap.size W W' :=
    keeps_any F0 _ _ zs1 x2 W hf0 hsl1 (table hL) (size_pos (table hL))
  refine walk.mono fun e W' ⟨he, hb⟩ => ?_
  subst he
  exact ⟨_, rfl, post_law (tb := 4) laidOut (by decide +kernel) rfl Tryd.underlying4 rfl rfl hW' hb⟩

noncomputable def wargs : Array Value := #[.agg #[.int .i64 0, .slice none 0 0, .slice none 0 0, .slice none 0 0], .slice none 0 0, .int .i64 0]
/-- A world for the witness: the settled one, the table holding what its initialiser lays. -/
noncomputable def laidWorld (os : Os) : World :=
  { World.holding Tryd.prog os ⟨#[], #[], []⟩ with heap := (World.holding Tryd.prog os ⟨#[], #[], []⟩).heap.modify 0 fun
      | .cells _ t frozen => .cells (Crc.T.map fun n => Value.int .u32 ((n : Nat) : Int)).toArray t frozen
      | o => o }
theorem laid_met (os : Os) : laidMet Tryd.prog Rows.fontSubsetKeepsTextRow.laid ((laidWorld os).forCall (fun _ _ => 0) ⟨#[], wargs, []⟩).memory :=
  laidMet_of_run' 20 (by kernel_rfl) (by kernel_rfl)
theorem reads (os : Os) {H : Type} (enc : TypeId × Value → H) : ∃ places, DataW.whole enc Tryd.prog ((laidWorld os).forCall (fun _ _ => 0) ⟨#[], wargs, []⟩).memory Tryd.f7.params.toList Rows.fontSubsetKeepsTextSpec.vars false wargs.toList 8 = some ([.agg [.lit (.int .i64 0), .nil, .nil, .nil], .nil, .lit (.int .i64 0)], [], places) :=
  ⟨[], by kernel_rfl⟩

set_option maxRecDepth 100000 in
theorem lifted (os : Os) (started : os.Started) (H : Type) (enc : TypeId × Value → H) (F : Stop.Interp) :
    ReturnsInHanded {} Tryd.checked os 7 .any ((OpenSpec.ofChange Rows.fontSubsetKeepsTextSpec).preRow enc Tryd.prog Tryd.f7 Rows.fontSubsetKeepsTextRow.domain false Rows.fontSubsetKeepsTextRow.laid) (((OpenSpec.ofChange Rows.fontSubsetKeepsTextSpec).at F).post enc Tryd.prog Tryd.f7 false true false false) := by
  obtain ⟨places, hx⟩ := reads os enc
  refine returnsInHanded_of_row (C := Tryd.checked) (s := (OpenSpec.ofChange Rows.fontSubsetKeepsTextSpec)) own started (by kernel_rfl) Tryd.func7
    (witness_row_at (enc := enc) (C := Tryd.checked) false (laidWorld os) wargs rfl (by kernel_rfl) (by kernel_rfl) (by kernel_rfl)
      (OpenSpec.preRow_of_cond 8 hx (by kernel_rfl) (fun k hk => by cases hk) (by kernel_rfl) (laid_met os))) ?_
  intro W base args ds gs before hval hW _ _ hsz hL hshape _
  exact contract H enc W base args ds gs before hval hW hsz hL hshape

theorem said : Rows.FontSubsetKeepsTextSaid :=
  OpenClaim.holds_of_cond 7 Tryd.f7 rfl rfl rfl rfl rfl rfl rfl ⟨rfl, rfl, rfl, rfl, rfl⟩ rfl rfl rfl rfl rfl (by kernel_rfl) Tryd.func7 (by kernel_rfl)
    (of_decide_eq_true (by kernel_rfl)) (by unfold Func.isWrapper; first | (rw [if_pos (by decide +kernel)]; kernel_rfl) | (rw [if_neg (by decide +kernel)]; exact ⟨rfl, rfl⟩))
    (fun os started H enc _ F => by rw [OpenClaim.pre_eq_preRow]; exact lifted os started H enc F)

theorem plain (f : FuncId) (fn : Func) (hf : Tryd.pinned.checked.prog.funcNamed "printworks/printworkskeep3.FontSubsetKeepsText" = some f) (hfn : Tryd.pinned.checked.prog.funcs[f]? = some fn) :
    false = Tryd.pinned.checked.prog.looks [] ∧ ∀ (j : Nat) t, fn.params[j]? = some t → Tryd.pinned.checked.prog.wantsStandIn t = false := by
  obtain rfl : f = 7 := Option.some.inj ((show Tryd.prog.funcNamed "printworks/printworkskeep3.FontSubsetKeepsText" = some 7 by kernel_rfl).symm.trans hf) |>.symm
  obtain rfl : fn = Tryd.f7 := (Option.some.inj (Tryd.func7.symm.trans hfn)).symm
  refine ⟨by kernel_rfl, fun j t ht => ?_⟩
  have hm : t ∈ Tryd.f7.params := Array.mem_of_getElem? ht
  exact (by decide +kernel : ∀ t ∈ Tryd.f7.params.toList, Tryd.prog.wantsStandIn t = false) t (by simpa using hm)

theorem card : Rows.FontSubsetKeepsTextCardSaid :=
  Claim7.holds_tied_plain_at .later [] _ _ _ _ said (fun _ h => by cases h) (by kernel_rfl) (fun _ h => by cases h) fontSubsetKeepsText_row_tie rfl ⟨rfl, rfl⟩ (by kernel_rfl) rfl plain (by kernel_rfl)
end Go.Proofs.YtefkglmdkjkbiaaDoor.lawKp
